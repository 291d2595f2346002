/- The compact code of this seat's functions (printed by a program of ours out of the translation; each is checked against the loaded program). -/
import Derived.Test.YtmgpkcpalpejcaaDoorProg
import Derived.Test.YtmgpkcpalpejcaaDoorLRd
set_option maxRecDepth 100000
namespace Go.Proofs.YtmgpkcpalpejcaaDoor
open Go.Pv

noncomputable abbrev P : Program := Tryd.prog
theorem hmix : P.follows .mixedOrders = true := by kernel_rfl

namespace T
abbrev t : Nat := 0
abbrev func : Nat := 1
abbrev int64 : Nat := 2
abbrev int : Nat := 3
abbrev bool : Nat := 4
abbrev uint8 : Nat := 5
abbrev internalabiBoundsErrorCode : Nat := 6
abbrev structxint64yintsignedboolcodeabiBoundsErrorCode : Nat := 7
abbrev runtimeboundsError : Nat := 8
abbrev string : Nat := 9
abbrev runtimeerrorString : Nat := 10
abbrev runtimeplainError : Nat := 11
abbrev uintptr : Nat := 12
abbrev structmsgstringaddruintptr : Nat := 13
abbrev runtimeerrorAddressString : Nat := 14
abbrev runtimeTypeAssertionError : Nat := 15
abbrev runtimePanicNilError : Nat := 16
abbrev abiType : Nat := 17
abbrev structtypabiType : Nat := 18
abbrev internalruntimemapsunhashableTypeError : Nat := 19
abbrev interface : Nat := 20
abbrev int32 : Nat := 21
abbrev Lint : Nat := 22
abbrev t32uint8 : Nat := 23
abbrev apiDigest : Nat := 24
abbrev structRoundintEntryintJudgeintCipherLintCommitapiDigest : Nat := 25
abbrev apiSealed : Nat := 26
abbrev funcbool : Nat := 27
abbrev apiErrno : Nat := 28
abbrev apiSealedapiErrno : Nat := 29
abbrev funcintintintLintLintapiDigestapiSealedapiErrno : Nat := 30
abbrev funcapiSealedapiSealedbool : Nat := 31
abbrev funcapiSealedapiErrno : Nat := 32
abbrev funcintintintLintLintapiDigestapiSealedbool : Nat := 33
abbrev LintboolapiErrno : Nat := 34
abbrev funcapiSealedLintapiDigestLintboolapiErrno : Nat := 35
abbrev LintapiErrno : Nat := 36
abbrev funcapiSealedLintLintapiErrno : Nat := 37
abbrev funcLintLintbool : Nat := 38
abbrev funcapiSealedLintapiDigestbool : Nat := 39
abbrev funcuint8uint8uint8LintLintapiDigestbool : Nat := 40
abbrev Luint8 : Nat := 41
abbrev funcapiSealedLintLintapiDigestLuint8 : Nat := 42
abbrev funcstringLuint8apiDigest : Nat := 43
abbrev funcapiSealedLintLintapiDigestapiDigestuint8uint8uint8bool : Nat := 44
abbrev LLint : Nat := 45
abbrev Lbool : Nat := 46
abbrev funcLintbool : Nat := 47
abbrev LapiShare : Nat := 48
abbrev LapiShareapiErrno : Nat := 49
abbrev funcintLintintLapiShareapiErrno : Nat := 50
abbrev structXintYint : Nat := 51
abbrev apiPoint : Nat := 52
abbrev LapiPoint : Nat := 53
abbrev structAtintValueint : Nat := 54
abbrev apiShare : Nat := 55
abbrev funcLapiPointLint : Nat := 56
abbrev funcLintLintLintapiDigestLLintuint8Lboolbool : Nat := 57
abbrev funcapiErrno : Nat := 58
abbrev apiErrno_2 : Nat := 59
abbrev funcapiSealed : Nat := 60
abbrev funcbool_2 : Nat := 61
abbrev funcLintintbool : Nat := 62
abbrev funcLintLintfuncintintintLint : Nat := 63
abbrev funcintintint : Nat := 64
abbrev funcapiSealedLintLintapiDigestapiDigest : Nat := 65
abbrev funcintintintbool : Nat := 66
abbrev funcintintintLintLintapiDigestLuint8 : Nat := 67
abbrev funcapiSealedLintLint : Nat := 68
abbrev LapiValue : Nat := 69
abbrev structKindintNintSstringLLapiValue : Nat := 70
abbrev apiValue : Nat := 71
abbrev funcLintapiValue : Nat := 72
abbrev Luint8apiErrno : Nat := 73
abbrev funcapiValueLuint8apiErrno : Nat := 74
abbrev funcLuint8apiDigest : Nat := 75
abbrev funcLuint8Luint8 : Nat := 76
abbrev funciterSeqapiShareLapiShare : Nat := 77
abbrev funcfuncapiSharebool : Nat := 78
abbrev iterSeqapiShare : Nat := 79
abbrev funcLintintiterSeqapiShare : Nat := 80
abbrev funcintint : Nat := 81
abbrev funcintintbool : Nat := 82
abbrev funcintbool : Nat := 83
abbrev funcLintfuncintboolbool : Nat := 84
abbrev funcinterfaceapiValue : Nat := 85
abbrev funcapiValueapiErrno : Nat := 86
abbrev funcLuint8apiValueLuint8 : Nat := 87
abbrev structwritefuncLuint8apiValueLuint8 : Nat := 88
abbrev codeckind : Nat := 89
abbrev codecwriter : Nat := 90
abbrev funccodecwriter : Nat := 91
abbrev uint32 : Nat := 92
abbrev t8uint32 : Nat := 93
abbrev digeststate : Nat := 94
abbrev funcLuint8 : Nat := 95
abbrev funcLuint8uint64 : Nat := 96
abbrev uint64 : Nat := 97
abbrev LLuint8 : Nat := 98
abbrev funcLuint8intLuint8 : Nat := 99
abbrev funcLapiShareiterSeqapiShareLapiShare : Nat := 100
abbrev funcapiSharebool : Nat := 101
abbrev funcLintintint : Nat := 102
abbrev funcLintfuncintboolint : Nat := 103
abbrev Linterface : Nat := 104
abbrev funcLuint8Luint8_2 : Nat := 105
abbrev func8uint32Luint88uint32 : Nat := 106
abbrev funcapiValueLuint8 : Nat := 107
abbrev intbool : Nat := 108
abbrev funcapiValueintbool : Nat := 109
abbrev t4codeckind : Nat := 110
abbrev codecwriter_2 : Nat := 111
abbrev funcLuint8uint64Luint8 : Nat := 112
abbrev funcintuint64 : Nat := 113
abbrev digeststate_2 : Nat := 114
abbrev t64uint32 : Nat := 115
abbrev funcLuint8uint32 : Nat := 116
abbrev funcuint32intuint32 : Nat := 117
abbrev uint : Nat := 118
abbrev funcuint32intintintuint32 : Nat := 119
abbrev Luint32 : Nat := 120
abbrev funcintint_2 : Nat := 121
abbrev func64uint32 : Nat := 122
abbrev funcapiValuebool : Nat := 123
abbrev funcapiValueint : Nat := 124
abbrev funcuint64Luint8 : Nat := 125
abbrev t4bool : Nat := 126
abbrev funcstring : Nat := 127
abbrev structinterfaceabiTypeconcreteabiTypeassertedabiTypemissingMethodstring : Nat := 128
abbrev runtimeTypeAssertionError_2 : Nat := 129
abbrev t0runtimePanicNilError : Nat := 130
abbrev struct0runtimePanicNilError : Nat := 131
abbrev runtimePanicNilError_2 : Nat := 132
abbrev funcint : Nat := 133
abbrev internalabiTFlag : Nat := 134
abbrev internalabiKind : Nat := 135
abbrev funcunsafePointerunsafePointerbool : Nat := 136
abbrev uint8_2 : Nat := 137
abbrev internalabiNameOff : Nat := 138
abbrev internalabiTypeOff : Nat := 139
abbrev structSizeuintptrPtrBytesuintptrHashuint32TFlagabiTFlagAlignuint8FieldAlignuint8KindabiKindEqualfuncunsafePointerunsafePointerboolGCDatauint8StrabiNameOffPtrToThisabiTypeOff : Nat := 140
abbrev internalabiType : Nat := 141
abbrev unsafePointer : Nat := 142
end T
namespace F
abbrev podiumlaw34_SealSpec : Nat := 3
abbrev podiumlaw34_SealOpenSpec : Nat := 4
abbrev podiumlaw34_SealBack : Nat := 5
abbrev podiumlaw34_SealBound : Nat := 6
abbrev podiumlaw34_SealHides : Nat := 7
abbrev podiumlaw34_sane : Nat := 8
abbrev seal_Make : Nat := 9
abbrev podiumref34_Make : Nat := 10
abbrev podiumref34_Same : Nat := 11
abbrev seal_Check : Nat := 12
abbrev podiumref34_Check : Nat := 13
abbrev seal_Open : Nat := 14
abbrev podiumref34_Open : Nat := 15
abbrev seal_Strip : Nat := 16
abbrev podiumref34_Strip : Nat := 17
abbrev podiumref34_SameInts : Nat := 18
abbrev podiumlaw34_few : Nat := 19
abbrev podiumlaw34_text : Nat := 20
abbrev digest_Tagged : Nat := 21
abbrev podiumref34_Marks : Nat := 22
abbrev shares_Deal : Nat := 23
abbrev podiumlaw34_through : Nat := 24
abbrev seal_caught : Nat := 25
abbrev seal_placed : Nat := 26
abbrev seal_need : Nat := 27
abbrev seal_all : Nat := 28
abbrev seal_zip__int_int_int : Nat := 29
abbrev seal_Make_1 : Nat := 30
abbrev seal_commit : Nat := 31
abbrev podiumref34_place : Nat := 32
abbrev podiumref34_Keys : Nat := 33
abbrev podiumref02_Tagged : Nat := 34
abbrev podiumref34_Text : Nat := 35
abbrev seal_bare : Nat := 36
abbrev podiumref34_bare : Nat := 37
abbrev podiumlaw34_text_1 : Nat := 38
abbrev codec_Encode : Nat := 39
abbrev digest_Sum : Nat := 40
abbrev slices_Concat__Lbyte_byte : Nat := 41
abbrev podiumref34_within : Nat := 42
abbrev slices_Collect__apiShare : Nat := 43
abbrev shares_values : Nat := 44
abbrev podiumlaw34_inverse : Nat := 45
abbrev seal_within : Nat := 46
abbrev seal_all_1 : Nat := 47
abbrev slices_ContainsFunc__Lint_int : Nat := 48
abbrev seal_values : Nat := 49
abbrev podiumref02_Sum : Nat := 50
abbrev podiumref01_Encode : Nat := 51
abbrev seal_bare_1 : Nat := 52
abbrev codec_Check : Nat := 53
abbrev codec_newWriter : Nat := 54
abbrev Pdigest_state_absorb : Nat := 55
abbrev digest_put : Nat := 56
abbrev slices_Grow__Lbyte_byte : Nat := 57
abbrev slices_AppendSeq__LapiShare_apiShare : Nat := 58
abbrev shares_values_1 : Nat := 59
abbrev field_Value : Nat := 60
abbrev slices_IndexFunc__Lint_int : Nat := 61
abbrev podiumref02_padded : Nat := 62
abbrev podiumref02_block : Nat := 63
abbrev podiumref01_Check : Nat := 64
abbrev podiumref01_encode : Nat := 65
abbrev codec_formed : Nat := 66
abbrev codec_newWriter_1 : Nat := 67
abbrev codec_numeral : Nat := 68
abbrev codec_unsigned : Nat := 69
abbrev codec_newWriter_2 : Nat := 70
abbrev codec_newWriter_3 : Nat := 71
abbrev digest_word : Nat := 72
abbrev math_bits_RotateLeft32 : Nat := 73
abbrev digest_rotated : Nat := 74
abbrev field_sum : Nat := 75
abbrev field_Mul : Nat := 76
abbrev podiumref02_word : Nat := 77
abbrev podiumref02_ror : Nat := 78
abbrev podiumref02_numbers : Nat := 79
abbrev podiumref01_Formed : Nat := 80
abbrev podiumref01_Depth : Nat := 81
abbrev podiumref01_numeral : Nat := 82
abbrev podiumref01_unsigned : Nat := 83
abbrev field_Mod : Nat := 84
end F

/-- podium/podiumlaw34.SealBack -/
noncomputable def C.podiumlaw34_SealBack : MFunc := ⟨125, 6, [.tmp 12],
  (.seq (.region [
    ⟨(some 11), none, .box T.apiDigest (.tmp 5)⟩,
    ⟨(some 12), none, .val (.mv (.const (.bool false)))⟩] [])
  (.seq (.seq (.region [
    ⟨(some 22), none, .call (.const (.func (.func F.podiumlaw34_sane) [] [])) []⟩,
    ⟨(some 23), none, .val (.un .not (.tmp 22))⟩] [22])
  (.cond (.tmp 23)
  (.seq (.region [
    ⟨(some 12), none, .val (.mv (.const (.bool false)))⟩] [])
  .ret)
  .skip))
  (.seq (.seq (.region [
    ⟨(some 24), none, .val (.mv (.tmp 3))⟩,
    ⟨(some 25), none, .val (.mv (.tmp 4))⟩,
    ⟨(some 26), none, .call (.const (.func (.func F.podiumlaw34_few) [] [])) [(.tmp 24), (.tmp 25)]⟩,
    ⟨(some 27), none, .val (.un .not (.tmp 26))⟩] [24, 25, 26])
  (.cond (.tmp 27)
  (.seq (.region [
    ⟨(some 12), none, .val (.mv (.const (.bool true)))⟩] [])
  .ret)
  .skip))
  (.seq (.region [
    ⟨(some 29), none, .val (.mv (.tmp 0))⟩,
    ⟨(some 30), none, .val (.toInt .i64 (.tmp 29))⟩,
    ⟨(some 31), none, .val (.bin .rem T.int (.tmp 30) (.const (.int 8)))⟩,
    ⟨(some 32), none, .val (.mv (.tmp 1))⟩,
    ⟨(some 33), none, .val (.toInt .i64 (.tmp 32))⟩,
    ⟨(some 34), none, .val (.mv (.tmp 2))⟩,
    ⟨(some 35), none, .val (.toInt .i64 (.tmp 34))⟩,
    ⟨(some 36), none, .val (.mv (.tmp 3))⟩,
    ⟨(some 37), none, .val (.mv (.tmp 4))⟩,
    ⟨(some 38), none, .val (.load 32 true (.tmp 11))⟩,
    ⟨(some 39), none, .call (.const (.func (.func F.seal_Make) [] [])) [(.tmp 31), (.tmp 33), (.tmp 35), (.tmp 36), (.tmp 37), (.tmp 38)]⟩,
    ⟨(some 28), none, .val (.mv (.tmp 39))⟩,
    ⟨(some 40), none, .val (.extract 0 (.tmp 28))⟩,
    ⟨(some 41), none, .val (.extract 1 (.tmp 28))⟩,
    ⟨(some 13), none, .alloc T.apiSealed ((.int 0) :: (.int 0) :: (.int 0) :: .nil :: (.val (.int .u8 0)) :: (.val (.int .u8 0)) :: (.val (.int .u8 0)) :: (.val (.int .u8 0)) :: (.val (.int .u8 0)) :: (.val (.int .u8 0)) :: (.val (.int .u8 0)) :: (.val (.int .u8 0)) :: (.val (.int .u8 0)) :: (.val (.int .u8 0)) :: (.val (.int .u8 0)) :: (.val (.int .u8 0)) :: (.val (.int .u8 0)) :: (.val (.int .u8 0)) :: (.val (.int .u8 0)) :: (.val (.int .u8 0)) :: (.val (.int .u8 0)) :: (.val (.int .u8 0)) :: (.val (.int .u8 0)) :: (.val (.int .u8 0)) :: (.val (.int .u8 0)) :: (.val (.int .u8 0)) :: (.val (.int .u8 0)) :: (.val (.int .u8 0)) :: (.val (.int .u8 0)) :: (.val (.int .u8 0)) :: (.val (.int .u8 0)) :: (.val (.int .u8 0)) :: (.val (.int .u8 0)) :: (.val (.int .u8 0)) :: (.val (.int .u8 0)) :: (.val (.int .u8 0)) :: [])⟩,
    ⟨none, none, .store 36 (.tmp 13) (.tmp 40)⟩,
    ⟨(some 14), none, .val (.mv (.tmp 41))⟩] [29, 30, 31, 32, 33, 34, 35, 36, 37, 38, 39, 28, 40, 41])
  (.seq (.region [
    ⟨(some 43), none, .val (.load 36 true (.tmp 13))⟩,
    ⟨(some 44), none, .val (.mv (.tmp 4))⟩,
    ⟨(some 45), none, .val (.load 32 true (.tmp 11))⟩,
    ⟨(some 46), none, .call (.const (.func (.func F.seal_Open) [] [])) [(.tmp 43), (.tmp 44), (.tmp 45)]⟩,
    ⟨(some 42), none, .val (.mv (.tmp 46))⟩,
    ⟨(some 47), none, .val (.extract 0 (.tmp 42))⟩,
    ⟨(some 48), none, .val (.extract 1 (.tmp 42))⟩,
    ⟨(some 49), none, .val (.extract 2 (.tmp 42))⟩,
    ⟨(some 15), none, .val (.mv (.tmp 47))⟩,
    ⟨(some 16), none, .val (.mv (.tmp 48))⟩,
    ⟨(some 17), none, .val (.mv (.tmp 49))⟩] [43, 44, 45, 46, 42, 47, 48, 49])
  (.seq (.region [
    ⟨(some 51), none, .val (.load 36 true (.tmp 13))⟩,
    ⟨(some 52), none, .val (.mv (.tmp 4))⟩,
    ⟨(some 53), none, .call (.const (.func (.func F.seal_Strip) [] [])) [(.tmp 51), (.tmp 52)]⟩,
    ⟨(some 50), none, .val (.mv (.tmp 53))⟩,
    ⟨(some 54), none, .val (.extract 0 (.tmp 50))⟩,
    ⟨(some 55), none, .val (.extract 1 (.tmp 50))⟩,
    ⟨(some 18), none, .val (.mv (.tmp 54))⟩,
    ⟨(some 19), none, .val (.mv (.tmp 55))⟩] [51, 52, 53, 50, 54, 55])
  (.seq (.seq (.region (
    ⟨(some 56), none, .val (.mv (.tmp 14))⟩ ::
    ⟨(some 57), none, .val (.bin .neq T.apiErrno (.tmp 56) (.const (.int 0)))⟩ ::
    ⟨(some 58), none, .val (.mv (.tmp 57))⟩ ::
    ⟨(some 59), (some (58, false)), .val (.mv (.tmp 17))⟩ ::
    ⟨(some 60), (some (58, false)), .val (.bin .neq T.apiErrno (.tmp 59) (.const (.int 0)))⟩ ::
    ⟨(some 61), none, .val (.pick (.tmp 58) (.const (.bool true)) (.tmp 60))⟩ ::
    ⟨(some 62), none, .val (.mv (.tmp 61))⟩ ::
    ⟨(some 63), (some (62, false)), .val (.mv (.tmp 19))⟩ ::
    ⟨(some 64), (some (62, false)), .val (.bin .neq T.apiErrno (.tmp 63) (.const (.int 0)))⟩ ::
    ⟨(some 65), none, .val (.pick (.tmp 62) (.const (.bool true)) (.tmp 64))⟩ ::
    ⟨(some 66), none, .val (.mv (.tmp 65))⟩ ::
    ⟨(some 67), (some (66, false)), .val (.mv (.tmp 16))⟩ ::
    ⟨(some 68), (some (66, false)), .val (.un .not (.tmp 67))⟩ ::
    ⟨(some 69), none, .val (.pick (.tmp 66) (.const (.bool true)) (.tmp 68))⟩ ::
    ⟨(some 70), none, .val (.mv (.tmp 69))⟩ ::
    ⟨(some 71), (some (70, false)), .val (.mv (.tmp 15))⟩ ::
    ⟨(some 72), (some (70, false)), .val (.mv (.tmp 3))⟩ ::
    ⟨(some 73), (some (70, false)), .call (.const (.func (.func F.podiumref34_SameInts) [] [])) [(.tmp 71), (.tmp 72)]⟩ ::
    ⟨(some 74), (some (70, false)), .val (.un .not (.tmp 73))⟩ ::
    ⟨(some 75), none, .val (.pick (.tmp 70) (.const (.bool true)) (.tmp 74))⟩ ::
    ⟨(some 76), none, .val (.mv (.tmp 75))⟩ ::
    ⟨(some 77), (some (76, false)), .val (.mv (.tmp 18))⟩ ::
    ⟨(some 78), (some (76, false)), .val (.mv (.tmp 3))⟩ ::
    ⟨(some 79), (some (76, false)), .call (.const (.func (.func F.podiumref34_SameInts) [] [])) [(.tmp 77), (.tmp 78)]⟩ ::
    ⟨(some 80), (some (76, false)), .val (.un .not (.tmp 79))⟩ ::
    ⟨(some 81), none, .val (.pick (.tmp 76) (.const (.bool true)) (.tmp 80))⟩ ::
    ⟨(some 82), none, .val (.mv (.tmp 81))⟩ ::
    ⟨(some 83), (some (82, false)), .val (.load 36 true (.tmp 13))⟩ ::
    ⟨(some 84), (some (82, false)), .call (.const (.func (.func F.seal_Check) [] [])) [(.tmp 83)]⟩ ::
    ⟨(some 85), (some (82, false)), .val (.bin .neq T.apiErrno (.tmp 84) (.const (.int 0)))⟩ ::
    ⟨(some 86), none, .val (.pick (.tmp 82) (.const (.bool true)) (.tmp 85))⟩ ::
    ⟨(some 87), none, .val (.mv (.tmp 86))⟩ ::
    ⟨(some 88), (some (87, false)), .val (.fieldAddr 3 (.tmp 13))⟩ ::
    ⟨(some 89), (some (87, false)), .val (.load 1 false (.tmp 88))⟩ ::
    ⟨(some 90), (some (87, false)), .val (.len (.tmp 89))⟩ ::
    ⟨(some 91), (some (87, false)), .val (.mv (.tmp 3))⟩ ::
    ⟨(some 92), (some (87, false)), .val (.len (.tmp 91))⟩ ::
    ⟨(some 93), (some (87, false)), .val (.bin .neq T.int (.tmp 90) (.tmp 92))⟩ ::
    ⟨(some 94), none, .val (.pick (.tmp 87) (.const (.bool true)) (.tmp 93))⟩ :: []) (56 :: 57 :: 58 :: 59 :: 60 :: 61 :: 62 :: 63 :: 64 :: 65 :: 66 :: 67 :: 68 :: 69 :: 70 :: 71 :: 72 :: 73 :: 74 :: 75 :: 76 :: 77 :: 78 :: 79 :: 80 :: 81 :: 82 :: 83 :: 84 :: 85 :: 86 :: 87 :: 88 :: 89 :: 90 :: 91 :: 92 :: 93 :: []))
  (.cond (.tmp 94)
  (.seq (.region [
    ⟨(some 12), none, .val (.mv (.const (.bool false)))⟩] [])
  .ret)
  .skip))
  (.seq (.seq (.region [
    ⟨(some 95), none, .val (.fieldAddr 3 (.tmp 13))⟩,
    ⟨(some 96), none, .val (.load 1 false (.tmp 95))⟩,
    ⟨(some 97), none, .val (.len (.tmp 96))⟩,
    ⟨(some 98), none, .val (.mv (.const (.int 0)))⟩] [95])
  (.block 0 (.loop (.seq (.region [
    ⟨(some 99), none, .val (.bin .lss T.int (.tmp 98) (.tmp 97))⟩] [])
  (.seq (.cond (.tmp 99)
  .skip
  (.exit 0))
  (.seq (.block 1 (.seq (.region [
    ⟨(some 100), none, .val (.mv (.tmp 98))⟩,
    ⟨(some 101), none, .val (.indexAddr 1 (.tmp 96) (.tmp 98))⟩,
    ⟨(some 102), none, .val (.load 1 false (.tmp 101))⟩,
    ⟨(some 20), none, .val (.mv (.tmp 100))⟩,
    ⟨(some 21), none, .val (.mv (.tmp 102))⟩] [100, 101, 102])
  (.seq (.draw false [
    (.early, ⟨(some 103), none, .val (.mv (.tmp 21))⟩),
    (.early, ⟨(some 104), none, .val (.bin .lss T.int (.tmp 103) (.const (.int 0)))⟩),
    (.early, ⟨(some 105), none, .val (.mv (.tmp 104))⟩),
    (.early, ⟨(some 106), (some (105, false)), .val (.mv (.tmp 21))⟩),
    (.early, ⟨(some 107), (some (105, false)), .val (.bin .geq T.int (.tmp 106) (.const (.int 1073741789)))⟩),
    (.early, ⟨(some 108), none, .val (.pick (.tmp 105) (.const (.bool true)) (.tmp 107))⟩),
    (.early, ⟨(some 109), none, .val (.mv (.tmp 108))⟩),
    (.early, ⟨(some 110), (some (109, false)), .val (.mv (.tmp 21))⟩),
    (.early, ⟨(some 111), (some (109, false)), .val (.mv (.tmp 3))⟩),
    (.early, ⟨(some 112), (some (109, false)), .val (.mv (.tmp 20))⟩),
    (.early, ⟨(some 113), (some (109, false)), .val (.indexAddr 1 (.tmp 111) (.tmp 112))⟩),
    (.early, ⟨(some 114), (some (109, false)), .val (.load 1 false (.tmp 113))⟩),
    (.early, ⟨(some 115), (some (109, false)), .val (.bin .sub T.int (.tmp 110) (.tmp 114))⟩),
    (.early, ⟨(some 116), (some (109, false)), .val (.mv (.tmp 4))⟩),
    (.early, ⟨(some 117), (some (109, false)), .val (.mv (.tmp 20))⟩),
    (.early, ⟨(some 118), (some (109, false)), .val (.indexAddr 1 (.tmp 116) (.tmp 117))⟩),
    (.early, ⟨(some 119), (some (109, false)), .val (.load 1 false (.tmp 118))⟩),
    (.early, ⟨(some 120), (some (109, false)), .val (.bin .sub T.int (.tmp 115) (.tmp 119))⟩),
    (.early, ⟨(some 121), (some (109, false)), .val (.bin .rem T.int (.tmp 120) (.const (.int 1073741789)))⟩),
    (.early, ⟨(some 122), (some (109, false)), .val (.bin .neq T.int (.tmp 121) (.const (.int 0)))⟩),
    (.early, ⟨(some 123), none, .val (.pick (.tmp 109) (.const (.bool true)) (.tmp 122))⟩)] [103, 104, 105, 106, 107, 108, 109, 110, 111, 112, 113, 114, 115, 116, 117, 118, 119, 120, 121, 122])
  (.cond (.tmp 123)
  (.seq (.region [
    ⟨(some 12), none, .val (.mv (.const (.bool false)))⟩] [])
  .ret)
  .skip))))
  (.region [
    ⟨(some 124), none, .val (.bin .add T.int (.tmp 98) (.const (.int 1)))⟩,
    ⟨(some 98), none, .val (.mv (.tmp 124))⟩] [124])))))))
  (.seq (.region [
    ⟨(some 12), none, .val (.mv (.const (.bool true)))⟩] [])
  .ret)))))))))⟩
theorem H.podiumlaw34_SealBack : Has P F.podiumlaw34_SealBack C.podiumlaw34_SealBack := ⟨Tryd.f5, Tryd.func5, by kernel_rfl, by kernel_rfl⟩

/-- podium/podiumlaw34.SealHides -/
noncomputable def C.podiumlaw34_SealHides : MFunc := ⟨272, 7, [.tmp 14],
  (.seq (.region [
    ⟨(some 10), none, .box T.apiDigest (.tmp 3)⟩,
    ⟨(some 14), none, .val (.mv (.const (.bool false)))⟩] [])
  (.seq (.seq (.region [
    ⟨(some 36), none, .call (.const (.func (.func F.podiumlaw34_sane) [] [])) []⟩,
    ⟨(some 37), none, .val (.un .not (.tmp 36))⟩] [36])
  (.cond (.tmp 37)
  (.seq (.region [
    ⟨(some 14), none, .val (.mv (.const (.bool false)))⟩] [])
  .ret)
  .skip))
  (.seq (.region [
    ⟨(some 38), none, .val (.mv (.tmp 0))⟩,
    ⟨(some 39), none, .val (.len (.tmp 38))⟩,
    ⟨(some 15), none, .val (.mv (.tmp 39))⟩] [38, 39])
  (.seq (.seq (.region [
    ⟨(some 40), none, .val (.mv (.tmp 0))⟩,
    ⟨(some 41), none, .val (.mv (.tmp 1))⟩,
    ⟨(some 42), none, .call (.const (.func (.func F.podiumlaw34_few) [] [])) [(.tmp 40), (.tmp 41)]⟩,
    ⟨(some 43), none, .val (.un .not (.tmp 42))⟩,
    ⟨(some 44), none, .val (.mv (.tmp 43))⟩,
    ⟨(some 45), (some (44, false)), .val (.mv (.tmp 2))⟩,
    ⟨(some 46), (some (44, false)), .call (.const (.func (.func F.podiumref34_Marks) [] [])) [(.tmp 45)]⟩,
    ⟨(some 47), (some (44, false)), .val (.un .not (.tmp 46))⟩,
    ⟨(some 48), none, .val (.pick (.tmp 44) (.const (.bool true)) (.tmp 47))⟩,
    ⟨(some 49), none, .val (.mv (.tmp 48))⟩,
    ⟨(some 50), (some (49, false)), .val (.mv (.tmp 2))⟩,
    ⟨(some 51), (some (49, false)), .val (.len (.tmp 50))⟩,
    ⟨(some 52), (some (49, false)), .val (.mv (.tmp 15))⟩,
    ⟨(some 53), (some (49, false)), .val (.bin .neq T.int (.tmp 51) (.tmp 52))⟩,
    ⟨(some 54), none, .val (.pick (.tmp 49) (.const (.bool true)) (.tmp 53))⟩,
    ⟨(some 55), none, .val (.mv (.tmp 54))⟩,
    ⟨(some 56), (some (55, false)), .val (.mv (.tmp 15))⟩,
    ⟨(some 57), (some (55, false)), .val (.bin .gtr T.int (.tmp 56) (.const (.int 4)))⟩,
    ⟨(some 58), none, .val (.pick (.tmp 55) (.const (.bool true)) (.tmp 57))⟩,
    ⟨(some 59), none, .val (.mv (.tmp 58))⟩,
    ⟨(some 60), (some (59, false)), .val (.mv (.tmp 4))⟩,
    ⟨(some 61), (some (59, false)), .val (.len (.tmp 60))⟩,
    ⟨(some 62), (some (59, false)), .val (.mv (.tmp 15))⟩,
    ⟨(some 63), (some (59, false)), .val (.bin .neq T.int (.tmp 61) (.tmp 62))⟩,
    ⟨(some 64), none, .val (.pick (.tmp 59) (.const (.bool true)) (.tmp 63))⟩,
    ⟨(some 65), none, .val (.mv (.tmp 64))⟩,
    ⟨(some 66), (some (65, false)), .val (.mv (.tmp 6))⟩,
    ⟨(some 67), (some (65, false)), .val (.len (.tmp 66))⟩,
    ⟨(some 68), (some (65, false)), .val (.bin .gtr T.int (.tmp 67) (.const (.int 6)))⟩,
    ⟨(some 69), none, .val (.pick (.tmp 65) (.const (.bool true)) (.tmp 68))⟩] [40, 41, 42, 43, 44, 45, 46, 47, 48, 49, 50, 51, 52, 53, 54, 55, 56, 57, 58, 59, 60, 61, 62, 63, 64, 65, 66, 67, 68])
  (.cond (.tmp 69)
  (.seq (.region [
    ⟨(some 14), none, .val (.mv (.const (.bool true)))⟩] [])
  .ret)
  .skip))
  (.seq (.region [
    ⟨(some 71), none, .val (.mv (.tmp 0))⟩,
    ⟨(some 72), none, .val (.mv (.tmp 1))⟩,
    ⟨(some 73), none, .val (.load 32 true (.tmp 10))⟩,
    ⟨(some 74), none, .call (.const (.func (.func F.seal_Make) [] [])) [(.const (.int 0)), (.const (.int 0)), (.const (.int 0)), (.tmp 71), (.tmp 72), (.tmp 73)]⟩,
    ⟨(some 70), none, .val (.mv (.tmp 74))⟩,
    ⟨(some 75), none, .val (.extract 0 (.tmp 70))⟩,
    ⟨(some 76), none, .val (.extract 1 (.tmp 70))⟩,
    ⟨(some 16), none, .alloc T.apiSealed ((.int 0) :: (.int 0) :: (.int 0) :: .nil :: (.val (.int .u8 0)) :: (.val (.int .u8 0)) :: (.val (.int .u8 0)) :: (.val (.int .u8 0)) :: (.val (.int .u8 0)) :: (.val (.int .u8 0)) :: (.val (.int .u8 0)) :: (.val (.int .u8 0)) :: (.val (.int .u8 0)) :: (.val (.int .u8 0)) :: (.val (.int .u8 0)) :: (.val (.int .u8 0)) :: (.val (.int .u8 0)) :: (.val (.int .u8 0)) :: (.val (.int .u8 0)) :: (.val (.int .u8 0)) :: (.val (.int .u8 0)) :: (.val (.int .u8 0)) :: (.val (.int .u8 0)) :: (.val (.int .u8 0)) :: (.val (.int .u8 0)) :: (.val (.int .u8 0)) :: (.val (.int .u8 0)) :: (.val (.int .u8 0)) :: (.val (.int .u8 0)) :: (.val (.int .u8 0)) :: (.val (.int .u8 0)) :: (.val (.int .u8 0)) :: (.val (.int .u8 0)) :: (.val (.int .u8 0)) :: (.val (.int .u8 0)) :: (.val (.int .u8 0)) :: [])⟩,
    ⟨none, none, .store 36 (.tmp 16) (.tmp 75)⟩,
    ⟨(some 17), none, .val (.mv (.tmp 76))⟩] [71, 72, 73, 74, 70, 75, 76])
  (.seq (.seq (.region [
    ⟨(some 77), none, .val (.mv (.tmp 17))⟩,
    ⟨(some 78), none, .val (.bin .neq T.apiErrno (.tmp 77) (.const (.int 0)))⟩,
    ⟨(some 79), none, .val (.mv (.tmp 78))⟩,
    ⟨(some 80), (some (79, false)), .val (.fieldAddr 3 (.tmp 16))⟩,
    ⟨(some 81), (some (79, false)), .val (.load 1 false (.tmp 80))⟩,
    ⟨(some 82), (some (79, false)), .val (.len (.tmp 81))⟩,
    ⟨(some 83), (some (79, false)), .val (.mv (.tmp 15))⟩,
    ⟨(some 84), (some (79, false)), .val (.bin .neq T.int (.tmp 82) (.tmp 83))⟩,
    ⟨(some 85), none, .val (.pick (.tmp 79) (.const (.bool true)) (.tmp 84))⟩] [77, 78, 79, 80, 81, 82, 83, 84])
  (.cond (.tmp 85)
  (.seq (.region [
    ⟨(some 14), none, .val (.mv (.const (.bool false)))⟩] [])
  .ret)
  .skip))
  (.seq (.region [
    ⟨(some 18), none, .val (.mv (.const .nil))⟩] [])
  (.seq (.seq (.region [
    ⟨(some 86), none, .val (.fieldAddr 3 (.tmp 16))⟩,
    ⟨(some 87), none, .val (.load 1 false (.tmp 86))⟩,
    ⟨(some 88), none, .val (.len (.tmp 87))⟩,
    ⟨(some 89), none, .val (.mv (.const (.int 0)))⟩] [86, 87])
  (.block 0 (.loop (.seq (.region [
    ⟨(some 90), none, .val (.bin .lss T.int (.tmp 89) (.tmp 88))⟩] [])
  (.seq (.cond (.tmp 90)
  .skip
  (.exit 0))
  (.seq (.block 1 (.seq (.region [
    ⟨(some 91), none, .val (.mv (.tmp 89))⟩,
    ⟨(some 19), none, .val (.mv (.tmp 91))⟩] [91])
  (.draw true [
    (.early, ⟨(some 92), none, .val (.mv (.tmp 18))⟩),
    (.early, ⟨(some 93), none, .val (.fieldAddr 3 (.tmp 16))⟩),
    (.early, ⟨(some 94), none, .val (.load 1 false (.tmp 93))⟩),
    (.early, ⟨(some 95), none, .val (.mv (.tmp 19))⟩),
    (.early, ⟨(some 96), none, .val (.indexAddr 1 (.tmp 94) (.tmp 95))⟩),
    (.early, ⟨(some 97), none, .val (.load 1 false (.tmp 96))⟩),
    (.early, ⟨(some 98), none, .val (.mv (.tmp 2))⟩),
    (.early, ⟨(some 99), none, .val (.mv (.tmp 19))⟩),
    (.early, ⟨(some 100), none, .val (.indexAddr 1 (.tmp 98) (.tmp 99))⟩),
    (.early, ⟨(some 101), none, .val (.load 1 false (.tmp 100))⟩),
    (.early, ⟨(some 102), none, .val (.bin .sub T.int (.tmp 97) (.tmp 101))⟩),
    (.early, ⟨(some 103), none, .val (.bin .add T.int (.tmp 102) (.const (.int 1073741789)))⟩),
    (.early, ⟨(some 104), none, .val (.bin .rem T.int (.tmp 103) (.const (.int 1073741789)))⟩),
    (.early, ⟨(some 105), none, .val (.buildSlice T.int 1 [(.int 0)] [(0, 1, (.tmp 104))])⟩),
    (.hard, ⟨(some 106), none, .append T.int 8 1 (.tmp 92) (.tmp 105)⟩),
    (.late, ⟨(some 18), none, .val (.mv (.tmp 106))⟩)] [92, 93, 94, 95, 96, 97, 98, 99, 100, 101, 102, 103, 104, 105, 106])))
  (.region [
    ⟨(some 107), none, .val (.bin .add T.int (.tmp 89) (.const (.int 1)))⟩,
    ⟨(some 89), none, .val (.mv (.tmp 107))⟩] [107])))))))
  (.seq (.region [
    ⟨(some 109), none, .val (.mv (.tmp 2))⟩,
    ⟨(some 110), none, .val (.mv (.tmp 18))⟩,
    ⟨(some 111), none, .val (.load 32 true (.tmp 10))⟩,
    ⟨(some 112), none, .call (.const (.func (.func F.seal_Make) [] [])) [(.const (.int 0)), (.const (.int 0)), (.const (.int 0)), (.tmp 109), (.tmp 110), (.tmp 111)]⟩,
    ⟨(some 108), none, .val (.mv (.tmp 112))⟩,
    ⟨(some 113), none, .val (.extract 0 (.tmp 108))⟩,
    ⟨(some 114), none, .val (.extract 1 (.tmp 108))⟩,
    ⟨(some 20), none, .alloc T.apiSealed ((.int 0) :: (.int 0) :: (.int 0) :: .nil :: (.val (.int .u8 0)) :: (.val (.int .u8 0)) :: (.val (.int .u8 0)) :: (.val (.int .u8 0)) :: (.val (.int .u8 0)) :: (.val (.int .u8 0)) :: (.val (.int .u8 0)) :: (.val (.int .u8 0)) :: (.val (.int .u8 0)) :: (.val (.int .u8 0)) :: (.val (.int .u8 0)) :: (.val (.int .u8 0)) :: (.val (.int .u8 0)) :: (.val (.int .u8 0)) :: (.val (.int .u8 0)) :: (.val (.int .u8 0)) :: (.val (.int .u8 0)) :: (.val (.int .u8 0)) :: (.val (.int .u8 0)) :: (.val (.int .u8 0)) :: (.val (.int .u8 0)) :: (.val (.int .u8 0)) :: (.val (.int .u8 0)) :: (.val (.int .u8 0)) :: (.val (.int .u8 0)) :: (.val (.int .u8 0)) :: (.val (.int .u8 0)) :: (.val (.int .u8 0)) :: (.val (.int .u8 0)) :: (.val (.int .u8 0)) :: (.val (.int .u8 0)) :: (.val (.int .u8 0)) :: [])⟩,
    ⟨none, none, .store 36 (.tmp 20) (.tmp 113)⟩,
    ⟨(some 21), none, .val (.mv (.tmp 114))⟩] [109, 110, 111, 112, 108, 113, 114])
  (.seq (.seq (.region [
    ⟨(some 115), none, .val (.mv (.tmp 21))⟩,
    ⟨(some 116), none, .val (.bin .neq T.apiErrno (.tmp 115) (.const (.int 0)))⟩,
    ⟨(some 117), none, .val (.mv (.tmp 116))⟩,
    ⟨(some 118), (some (117, false)), .val (.fieldAddr 3 (.tmp 16))⟩,
    ⟨(some 119), (some (117, false)), .val (.load 1 false (.tmp 118))⟩,
    ⟨(some 120), (some (117, false)), .val (.fieldAddr 3 (.tmp 20))⟩,
    ⟨(some 121), (some (117, false)), .val (.load 1 false (.tmp 120))⟩,
    ⟨(some 122), (some (117, false)), .call (.const (.func (.func F.podiumref34_SameInts) [] [])) [(.tmp 119), (.tmp 121)]⟩,
    ⟨(some 123), (some (117, false)), .val (.un .not (.tmp 122))⟩,
    ⟨(some 124), none, .val (.pick (.tmp 117) (.const (.bool true)) (.tmp 123))⟩] [115, 116, 117, 118, 119, 120, 121, 122, 123])
  (.cond (.tmp 124)
  (.seq (.region [
    ⟨(some 14), none, .val (.mv (.const (.bool false)))⟩] [])
  .ret)
  .skip))
  (.seq (.seq (.region [
    ⟨(some 125), none, .val (.mv (.tmp 4))⟩,
    ⟨(some 126), none, .val (.len (.tmp 125))⟩,
    ⟨(some 127), none, .val (.mv (.const (.int 0)))⟩] [])
  (.block 2 (.loop (.seq (.region [
    ⟨(some 128), none, .val (.bin .lss T.int (.tmp 127) (.tmp 126))⟩] [])
  (.seq (.cond (.tmp 128)
  .skip
  (.exit 2))
  (.seq (.block 3 (.seq (.region [
    ⟨(some 129), none, .val (.mv (.tmp 127))⟩,
    ⟨(some 130), none, .val (.indexAddr 1 (.tmp 125) (.tmp 127))⟩,
    ⟨(some 131), none, .val (.load 1 false (.tmp 130))⟩,
    ⟨(some 22), none, .val (.mv (.tmp 129))⟩,
    ⟨(some 23), none, .val (.mv (.tmp 131))⟩] [129, 130, 131])
  (.seq (.region [
    ⟨(some 132), none, .val (.mv (.tmp 23))⟩,
    ⟨(some 133), none, .val (.len (.tmp 132))⟩,
    ⟨(some 134), none, .val (.bin .add T.int (.tmp 133) (.const (.int 1)))⟩,
    ⟨(some 135), none, .val (.mv (.tmp 5))⟩,
    ⟨(some 136), none, .val (.toInt .i64 (.tmp 135))⟩,
    ⟨(some 137), none, .val (.bin .rem T.int (.tmp 136) (.const (.int 6)))⟩,
    ⟨(some 138), none, .val (.bin .add T.int (.const (.int 1)) (.tmp 137))⟩,
    ⟨(some 24), none, .val (.mv (.tmp 134))⟩,
    ⟨(some 25), none, .val (.mv (.tmp 138))⟩] [132, 133, 134, 135, 136, 137, 138])
  (.seq (.seq (.region [
    ⟨(some 139), none, .val (.mv (.tmp 24))⟩,
    ⟨(some 140), none, .val (.bin .gtr T.int (.tmp 139) (.const (.int 4)))⟩,
    ⟨(some 141), none, .val (.mv (.tmp 140))⟩,
    ⟨(some 142), (some (141, false)), .val (.mv (.tmp 24))⟩,
    ⟨(some 143), (some (141, false)), .val (.mv (.tmp 25))⟩,
    ⟨(some 144), (some (141, false)), .val (.bin .gtr T.int (.tmp 142) (.tmp 143))⟩,
    ⟨(some 145), none, .val (.pick (.tmp 141) (.const (.bool true)) (.tmp 144))⟩] [139, 140, 141, 142, 143, 144])
  (.cond (.tmp 145)
  (.exit 3)
  .skip))
  (.seq (.region [
    ⟨(some 147), none, .val (.mv (.tmp 1))⟩,
    ⟨(some 148), none, .val (.mv (.tmp 22))⟩,
    ⟨(some 149), none, .val (.indexAddr 1 (.tmp 147) (.tmp 148))⟩,
    ⟨(some 150), none, .val (.load 1 false (.tmp 149))⟩,
    ⟨(some 151), none, .val (.mv (.tmp 23))⟩,
    ⟨(some 152), none, .val (.mv (.tmp 25))⟩,
    ⟨(some 153), none, .call (.const (.func (.func F.shares_Deal) [] [])) [(.tmp 150), (.tmp 151), (.tmp 152)]⟩,
    ⟨(some 146), none, .val (.mv (.tmp 153))⟩,
    ⟨(some 154), none, .val (.extract 0 (.tmp 146))⟩,
    ⟨(some 155), none, .val (.extract 1 (.tmp 146))⟩,
    ⟨(some 26), none, .val (.mv (.tmp 154))⟩,
    ⟨(some 27), none, .val (.mv (.tmp 155))⟩] [147, 148, 149, 150, 151, 152, 153, 146, 154, 155])
  (.seq (.seq (.region [
    ⟨(some 156), none, .val (.mv (.tmp 27))⟩,
    ⟨(some 157), none, .val (.bin .neq T.apiErrno (.tmp 156) (.const (.int 0)))⟩,
    ⟨(some 158), none, .val (.mv (.tmp 157))⟩,
    ⟨(some 159), (some (158, false)), .val (.mv (.tmp 26))⟩,
    ⟨(some 160), (some (158, false)), .val (.len (.tmp 159))⟩,
    ⟨(some 161), (some (158, false)), .val (.mv (.tmp 25))⟩,
    ⟨(some 162), (some (158, false)), .val (.bin .neq T.int (.tmp 160) (.tmp 161))⟩,
    ⟨(some 163), none, .val (.pick (.tmp 158) (.const (.bool true)) (.tmp 162))⟩] [156, 157, 158, 159, 160, 161, 162])
  (.cond (.tmp 163)
  (.seq (.region [
    ⟨(some 14), none, .val (.mv (.const (.bool false)))⟩] [])
  .ret)
  .skip))
  (.seq (.region [
    ⟨(some 164), none, .val (.mv (.tmp 18))⟩,
    ⟨(some 165), none, .val (.mv (.tmp 22))⟩,
    ⟨(some 166), none, .val (.indexAddr 1 (.tmp 164) (.tmp 165))⟩,
    ⟨(some 167), none, .val (.load 1 false (.tmp 166))⟩,
    ⟨(some 168), none, .val (.build [(.int 0), (.int 0)] [(0, 1, (.const (.int 0))), (1, 1, (.tmp 167))])⟩,
    ⟨(some 169), none, .val (.buildSlice T.apiPoint 1 [(.int 0), (.int 0)] [(0, 2, (.tmp 168))])⟩,
    ⟨(some 28), none, .val (.mv (.tmp 169))⟩] [164, 165, 166, 167, 168, 169])
  (.seq (.seq (.region [
    ⟨(some 170), none, .val (.mv (.tmp 26))⟩,
    ⟨(some 171), none, .val (.len (.tmp 170))⟩,
    ⟨(some 172), none, .val (.mv (.const (.int 0)))⟩] [])
  (.block 4 (.loop (.seq (.region [
    ⟨(some 173), none, .val (.bin .lss T.int (.tmp 172) (.tmp 171))⟩] [])
  (.seq (.cond (.tmp 173)
  .skip
  (.exit 4))
  (.seq (.block 5 (.seq (.region [
    ⟨(some 174), none, .val (.mv (.tmp 172))⟩,
    ⟨(some 175), none, .val (.indexAddr 2 (.tmp 170) (.tmp 172))⟩,
    ⟨(some 176), none, .val (.load 2 true (.tmp 175))⟩,
    ⟨(some 30), none, .alloc T.apiShare [(.int 0), (.int 0)]⟩,
    ⟨(some 29), none, .val (.mv (.tmp 174))⟩,
    ⟨none, none, .store 2 (.tmp 30) (.tmp 176)⟩] [174, 175, 176])
  (.seq (.seq (.region [
    ⟨(some 177), none, .val (.fieldAddr 0 (.tmp 30))⟩,
    ⟨(some 178), none, .val (.load 1 false (.tmp 177))⟩,
    ⟨(some 179), none, .val (.mv (.tmp 29))⟩,
    ⟨(some 180), none, .val (.bin .add T.int (.tmp 179) (.const (.int 1)))⟩,
    ⟨(some 181), none, .val (.bin .neq T.int (.tmp 178) (.tmp 180))⟩,
    ⟨(some 182), none, .val (.mv (.tmp 181))⟩,
    ⟨(some 183), (some (182, false)), .val (.fieldAddr 1 (.tmp 30))⟩,
    ⟨(some 184), (some (182, false)), .val (.load 1 false (.tmp 183))⟩,
    ⟨(some 185), (some (182, false)), .val (.bin .lss T.int (.tmp 184) (.const (.int 0)))⟩,
    ⟨(some 186), none, .val (.pick (.tmp 182) (.const (.bool true)) (.tmp 185))⟩,
    ⟨(some 187), none, .val (.mv (.tmp 186))⟩,
    ⟨(some 188), (some (187, false)), .val (.fieldAddr 1 (.tmp 30))⟩,
    ⟨(some 189), (some (187, false)), .val (.load 1 false (.tmp 188))⟩,
    ⟨(some 190), (some (187, false)), .val (.bin .geq T.int (.tmp 189) (.const (.int 1073741789)))⟩,
    ⟨(some 191), none, .val (.pick (.tmp 187) (.const (.bool true)) (.tmp 190))⟩] [177, 178, 179, 180, 181, 182, 183, 184, 185, 186, 187, 188, 189, 190])
  (.cond (.tmp 191)
  (.seq (.region [
    ⟨(some 14), none, .val (.mv (.const (.bool false)))⟩] [])
  .ret)
  .skip))
  (.seq (.region [
    ⟨(some 192), none, .val (.mv (.tmp 29))⟩,
    ⟨(some 193), none, .val (.mv (.tmp 6))⟩,
    ⟨(some 194), none, .val (.len (.tmp 193))⟩,
    ⟨(some 195), none, .val (.bin .lss T.int (.tmp 192) (.tmp 194))⟩,
    ⟨(some 196), none, .val (.mv (.tmp 195))⟩,
    ⟨(some 197), (some (196, true)), .val (.mv (.tmp 6))⟩,
    ⟨(some 198), (some (196, true)), .val (.mv (.tmp 29))⟩,
    ⟨(some 199), (some (196, true)), .val (.indexAddr 1 (.tmp 197) (.tmp 198))⟩,
    ⟨(some 200), (some (196, true)), .val (.load 1 false (.tmp 199))⟩,
    ⟨(some 201), none, .val (.pick (.tmp 196) (.tmp 200) (.const (.bool false)))⟩,
    ⟨(some 202), none, .val (.mv (.tmp 201))⟩,
    ⟨(some 203), (some (202, true)), .val (.mv (.tmp 28))⟩,
    ⟨(some 204), (some (202, true)), .val (.len (.tmp 203))⟩,
    ⟨(some 205), (some (202, true)), .val (.mv (.tmp 24))⟩,
    ⟨(some 206), (some (202, true)), .val (.bin .lss T.int (.tmp 204) (.tmp 205))⟩,
    ⟨(some 207), none, .val (.pick (.tmp 202) (.tmp 206) (.const (.bool false)))⟩] [192, 193, 194, 195, 196, 197, 198, 199, 200, 201, 202, 203, 204, 205, 206])
  (.cond (.tmp 207)
  (.region [
    ⟨(some 208), none, .val (.mv (.tmp 28))⟩,
    ⟨(some 209), none, .val (.fieldAddr 0 (.tmp 30))⟩,
    ⟨(some 210), none, .val (.load 1 false (.tmp 209))⟩,
    ⟨(some 211), none, .val (.fieldAddr 1 (.tmp 30))⟩,
    ⟨(some 212), none, .val (.load 1 false (.tmp 211))⟩,
    ⟨(some 213), none, .val (.build [(.int 0), (.int 0)] [(0, 1, (.tmp 210)), (1, 1, (.tmp 212))])⟩,
    ⟨(some 214), none, .val (.buildSlice T.apiPoint 1 [(.int 0), (.int 0)] [(0, 2, (.tmp 213))])⟩,
    ⟨(some 215), none, .append T.apiPoint 16 2 (.tmp 208) (.tmp 214)⟩,
    ⟨(some 28), none, .val (.mv (.tmp 215))⟩] [208, 209, 210, 211, 212, 213, 214, 215])
  .skip)))))
  (.region [
    ⟨(some 216), none, .val (.bin .add T.int (.tmp 172) (.const (.int 1)))⟩,
    ⟨(some 172), none, .val (.mv (.tmp 216))⟩] [216])))))))
  (.seq (.region [
    ⟨(some 217), none, .val (.mv (.tmp 28))⟩,
    ⟨(some 218), none, .call (.const (.func (.func F.podiumlaw34_through) [] [])) [(.tmp 217)]⟩,
    ⟨(some 219), none, .val (.mv (.tmp 24))⟩,
    ⟨(some 220), none, .val (.mv (.tmp 28))⟩,
    ⟨(some 221), none, .val (.len (.tmp 220))⟩,
    ⟨(some 222), none, .val (.bin .sub T.int (.tmp 219) (.tmp 221))⟩,
    ⟨(some 223), none, .appendZ T.int 8 1 [(.int 0)] (.tmp 218) (.tmp 222)⟩,
    ⟨(some 31), none, .val (.mv (.tmp 223))⟩] [217, 218, 219, 220, 221, 222, 223])
  (.seq (.draw true [
    (.early, ⟨(some 225), none, .val (.mv (.tmp 18))⟩),
    (.early, ⟨(some 226), none, .val (.mv (.tmp 22))⟩),
    (.early, ⟨(some 227), none, .val (.indexAddr 1 (.tmp 225) (.tmp 226))⟩),
    (.early, ⟨(some 228), none, .val (.load 1 false (.tmp 227))⟩),
    (.early, ⟨(some 229), none, .val (.mv (.tmp 31))⟩),
    (.early, ⟨(some 230), none, .val (.slice 1 (.tmp 229) (some (.const (.int 1))) none none)⟩),
    (.early, ⟨(some 231), none, .val (.mv (.tmp 25))⟩),
    (.hard, ⟨(some 232), none, .call (.const (.func (.func F.shares_Deal) [] [])) [(.tmp 228), (.tmp 230), (.tmp 231)]⟩),
    (.late, ⟨(some 224), none, .val (.mv (.tmp 232))⟩),
    (.late, ⟨(some 233), none, .val (.extract 0 (.tmp 224))⟩),
    (.late, ⟨(some 234), none, .val (.extract 1 (.tmp 224))⟩),
    (.late, ⟨(some 32), none, .val (.mv (.tmp 233))⟩),
    (.late, ⟨(some 33), none, .val (.mv (.tmp 234))⟩)] [225, 226, 227, 228, 229, 230, 231, 232, 224, 233, 234])
  (.seq (.seq (.draw false [
    (.early, ⟨(some 235), none, .val (.mv (.tmp 33))⟩),
    (.early, ⟨(some 236), none, .val (.bin .neq T.apiErrno (.tmp 235) (.const (.int 0)))⟩),
    (.early, ⟨(some 237), none, .val (.mv (.tmp 236))⟩),
    (.early, ⟨(some 238), (some (237, false)), .val (.mv (.tmp 32))⟩),
    (.early, ⟨(some 239), (some (237, false)), .val (.len (.tmp 238))⟩),
    (.early, ⟨(some 240), (some (237, false)), .val (.mv (.tmp 25))⟩),
    (.early, ⟨(some 241), (some (237, false)), .val (.bin .neq T.int (.tmp 239) (.tmp 240))⟩),
    (.early, ⟨(some 242), none, .val (.pick (.tmp 237) (.const (.bool true)) (.tmp 241))⟩),
    (.early, ⟨(some 243), none, .val (.mv (.tmp 242))⟩),
    (.early, ⟨(some 244), (some (243, false)), .val (.mv (.tmp 31))⟩),
    (.early, ⟨(some 245), (some (243, false)), .val (.indexAddr 1 (.tmp 244) (.const (.int 0)))⟩),
    (.early, ⟨(some 246), (some (243, false)), .val (.load 1 false (.tmp 245))⟩),
    (.early, ⟨(some 247), (some (243, false)), .val (.mv (.tmp 18))⟩),
    (.early, ⟨(some 248), (some (243, false)), .val (.mv (.tmp 22))⟩),
    (.early, ⟨(some 249), (some (243, false)), .val (.indexAddr 1 (.tmp 247) (.tmp 248))⟩),
    (.early, ⟨(some 250), (some (243, false)), .val (.load 1 false (.tmp 249))⟩),
    (.early, ⟨(some 251), (some (243, false)), .val (.bin .neq T.int (.tmp 246) (.tmp 250))⟩),
    (.early, ⟨(some 252), none, .val (.pick (.tmp 243) (.const (.bool true)) (.tmp 251))⟩)] [235, 236, 237, 238, 239, 240, 241, 242, 243, 244, 245, 246, 247, 248, 249, 250, 251])
  (.cond (.tmp 252)
  (.seq (.region [
    ⟨(some 14), none, .val (.mv (.const (.bool false)))⟩] [])
  .ret)
  .skip))
  (.seq (.region [
    ⟨(some 253), none, .val (.mv (.tmp 28))⟩,
    ⟨(some 254), none, .val (.slice 2 (.tmp 253) (some (.const (.int 1))) none none)⟩,
    ⟨(some 255), none, .val (.len (.tmp 254))⟩,
    ⟨(some 256), none, .val (.mv (.const (.int 0)))⟩] [253])
  (.block 6 (.loop (.seq (.region [
    ⟨(some 257), none, .val (.bin .lss T.int (.tmp 256) (.tmp 255))⟩] [])
  (.seq (.cond (.tmp 257)
  .skip
  (.exit 6))
  (.seq (.block 7 (.seq (.region [
    ⟨(some 258), none, .val (.indexAddr 2 (.tmp 254) (.tmp 256))⟩,
    ⟨(some 259), none, .val (.load 2 true (.tmp 258))⟩,
    ⟨(some 35), none, .alloc T.apiPoint [(.int 0), (.int 0)]⟩,
    ⟨none, none, .store 2 (.tmp 35) (.tmp 259)⟩] [258, 259])
  (.seq (.draw false [
    (.early, ⟨(some 260), none, .val (.mv (.tmp 32))⟩),
    (.early, ⟨(some 261), none, .val (.fieldAddr 0 (.tmp 35))⟩),
    (.early, ⟨(some 262), none, .val (.load 1 false (.tmp 261))⟩),
    (.early, ⟨(some 263), none, .val (.bin .sub T.int (.tmp 262) (.const (.int 1)))⟩),
    (.early, ⟨(some 264), none, .val (.indexAddr 2 (.tmp 260) (.tmp 263))⟩),
    (.early, ⟨(some 265), none, .val (.fieldAddr 1 (.tmp 264))⟩),
    (.early, ⟨(some 266), none, .val (.load 1 false (.tmp 265))⟩),
    (.early, ⟨(some 267), none, .val (.fieldAddr 1 (.tmp 35))⟩),
    (.early, ⟨(some 268), none, .val (.load 1 false (.tmp 267))⟩),
    (.early, ⟨(some 269), none, .val (.bin .neq T.int (.tmp 266) (.tmp 268))⟩)] [260, 261, 262, 263, 264, 265, 266, 267, 268])
  (.cond (.tmp 269)
  (.seq (.region [
    ⟨(some 14), none, .val (.mv (.const (.bool false)))⟩] [])
  .ret)
  .skip))))
  (.region [
    ⟨(some 270), none, .val (.bin .add T.int (.tmp 256) (.const (.int 1)))⟩,
    ⟨(some 256), none, .val (.mv (.tmp 270))⟩] [270]))))))))))))))))))
  (.region [
    ⟨(some 271), none, .val (.bin .add T.int (.tmp 127) (.const (.int 1)))⟩,
    ⟨(some 127), none, .val (.mv (.tmp 271))⟩] [271])))))))
  (.seq (.region [
    ⟨(some 14), none, .val (.mv (.const (.bool true)))⟩] [])
  .ret))))))))))))⟩
theorem H.podiumlaw34_SealHides : Has P F.podiumlaw34_SealHides C.podiumlaw34_SealHides := ⟨Tryd.f7, Tryd.func7, by kernel_rfl, by kernel_rfl⟩

/-- podium/podiumlaw34.sane -/
noncomputable def C.podiumlaw34_sane : MFunc := ⟨154, 0, [.tmp 0],
  (.seq (.region [
    ⟨(some 0), none, .val (.mv (.const (.bool false)))⟩] [])
  (.seq (.region [
    ⟨(some 21), none, .val (.buildSlice T.int 2 [(.int 0), (.int 0)] [(0, 1, (.const (.int 7))), (1, 1, (.const (.int 0)))])⟩,
    ⟨(some 22), none, .val (.buildSlice T.int 2 [(.int 0), (.int 0)] [(0, 1, (.const (.int 1073741788))), (1, 1, (.const (.int 5)))])⟩,
    ⟨(some 23), none, .val (.build ((.val (.int .u8 0)) :: (.val (.int .u8 0)) :: (.val (.int .u8 0)) :: (.val (.int .u8 0)) :: (.val (.int .u8 0)) :: (.val (.int .u8 0)) :: (.val (.int .u8 0)) :: (.val (.int .u8 0)) :: (.val (.int .u8 0)) :: (.val (.int .u8 0)) :: (.val (.int .u8 0)) :: (.val (.int .u8 0)) :: (.val (.int .u8 0)) :: (.val (.int .u8 0)) :: (.val (.int .u8 0)) :: (.val (.int .u8 0)) :: (.val (.int .u8 0)) :: (.val (.int .u8 0)) :: (.val (.int .u8 0)) :: (.val (.int .u8 0)) :: (.val (.int .u8 0)) :: (.val (.int .u8 0)) :: (.val (.int .u8 0)) :: (.val (.int .u8 0)) :: (.val (.int .u8 0)) :: (.val (.int .u8 0)) :: (.val (.int .u8 0)) :: (.val (.int .u8 0)) :: (.val (.int .u8 0)) :: (.val (.int .u8 0)) :: (.val (.int .u8 0)) :: (.val (.int .u8 0)) :: []) [(0, 1, (.const (.val (.int .u8 9))))])⟩,
    ⟨(some 24), none, .call (.const (.func (.func F.seal_Make) [] [])) [(.const (.int 1)), (.const (.int 2)), (.const (.int 3)), (.tmp 21), (.tmp 22), (.tmp 23)]⟩,
    ⟨(some 20), none, .val (.mv (.tmp 24))⟩,
    ⟨(some 25), none, .val (.extract 0 (.tmp 20))⟩,
    ⟨(some 26), none, .val (.extract 1 (.tmp 20))⟩,
    ⟨(some 1), none, .alloc T.apiSealed ((.int 0) :: (.int 0) :: (.int 0) :: .nil :: (.val (.int .u8 0)) :: (.val (.int .u8 0)) :: (.val (.int .u8 0)) :: (.val (.int .u8 0)) :: (.val (.int .u8 0)) :: (.val (.int .u8 0)) :: (.val (.int .u8 0)) :: (.val (.int .u8 0)) :: (.val (.int .u8 0)) :: (.val (.int .u8 0)) :: (.val (.int .u8 0)) :: (.val (.int .u8 0)) :: (.val (.int .u8 0)) :: (.val (.int .u8 0)) :: (.val (.int .u8 0)) :: (.val (.int .u8 0)) :: (.val (.int .u8 0)) :: (.val (.int .u8 0)) :: (.val (.int .u8 0)) :: (.val (.int .u8 0)) :: (.val (.int .u8 0)) :: (.val (.int .u8 0)) :: (.val (.int .u8 0)) :: (.val (.int .u8 0)) :: (.val (.int .u8 0)) :: (.val (.int .u8 0)) :: (.val (.int .u8 0)) :: (.val (.int .u8 0)) :: (.val (.int .u8 0)) :: (.val (.int .u8 0)) :: (.val (.int .u8 0)) :: (.val (.int .u8 0)) :: [])⟩,
    ⟨none, none, .store 36 (.tmp 1) (.tmp 25)⟩,
    ⟨(some 2), none, .val (.mv (.tmp 26))⟩] [21, 22, 23, 24, 20, 25, 26])
  (.seq (.region [
    ⟨(some 28), none, .val (.buildSlice T.int 1 [(.int 0)] [(0, 1, (.const (.int 1)))])⟩,
    ⟨(some 29), none, .val (.buildSlice T.int 1 [(.int 0)] [(0, 1, (.const (.int 1)))])⟩,
    ⟨(some 30), none, .val (.build ((.val (.int .u8 0)) :: (.val (.int .u8 0)) :: (.val (.int .u8 0)) :: (.val (.int .u8 0)) :: (.val (.int .u8 0)) :: (.val (.int .u8 0)) :: (.val (.int .u8 0)) :: (.val (.int .u8 0)) :: (.val (.int .u8 0)) :: (.val (.int .u8 0)) :: (.val (.int .u8 0)) :: (.val (.int .u8 0)) :: (.val (.int .u8 0)) :: (.val (.int .u8 0)) :: (.val (.int .u8 0)) :: (.val (.int .u8 0)) :: (.val (.int .u8 0)) :: (.val (.int .u8 0)) :: (.val (.int .u8 0)) :: (.val (.int .u8 0)) :: (.val (.int .u8 0)) :: (.val (.int .u8 0)) :: (.val (.int .u8 0)) :: (.val (.int .u8 0)) :: (.val (.int .u8 0)) :: (.val (.int .u8 0)) :: (.val (.int .u8 0)) :: (.val (.int .u8 0)) :: (.val (.int .u8 0)) :: (.val (.int .u8 0)) :: (.val (.int .u8 0)) :: (.val (.int .u8 0)) :: []) [])⟩,
    ⟨(some 31), none, .call (.const (.func (.func F.seal_Make) [] [])) [(.const (.int 8)), (.const (.int 0)), (.const (.int 0)), (.tmp 28), (.tmp 29), (.tmp 30)]⟩,
    ⟨(some 27), none, .val (.mv (.tmp 31))⟩,
    ⟨(some 32), none, .val (.extract 0 (.tmp 27))⟩,
    ⟨(some 33), none, .val (.extract 1 (.tmp 27))⟩,
    ⟨(some 3), none, .alloc T.apiSealed ((.int 0) :: (.int 0) :: (.int 0) :: .nil :: (.val (.int .u8 0)) :: (.val (.int .u8 0)) :: (.val (.int .u8 0)) :: (.val (.int .u8 0)) :: (.val (.int .u8 0)) :: (.val (.int .u8 0)) :: (.val (.int .u8 0)) :: (.val (.int .u8 0)) :: (.val (.int .u8 0)) :: (.val (.int .u8 0)) :: (.val (.int .u8 0)) :: (.val (.int .u8 0)) :: (.val (.int .u8 0)) :: (.val (.int .u8 0)) :: (.val (.int .u8 0)) :: (.val (.int .u8 0)) :: (.val (.int .u8 0)) :: (.val (.int .u8 0)) :: (.val (.int .u8 0)) :: (.val (.int .u8 0)) :: (.val (.int .u8 0)) :: (.val (.int .u8 0)) :: (.val (.int .u8 0)) :: (.val (.int .u8 0)) :: (.val (.int .u8 0)) :: (.val (.int .u8 0)) :: (.val (.int .u8 0)) :: (.val (.int .u8 0)) :: (.val (.int .u8 0)) :: (.val (.int .u8 0)) :: (.val (.int .u8 0)) :: (.val (.int .u8 0)) :: [])⟩,
    ⟨none, none, .store 36 (.tmp 3) (.tmp 32)⟩,
    ⟨(some 4), none, .val (.mv (.tmp 33))⟩] [28, 29, 30, 31, 27, 32, 33, 3])
  (.seq (.region [
    ⟨(some 35), none, .val (.build ((.val (.int .u8 0)) :: (.val (.int .u8 0)) :: (.val (.int .u8 0)) :: (.val (.int .u8 0)) :: (.val (.int .u8 0)) :: (.val (.int .u8 0)) :: (.val (.int .u8 0)) :: (.val (.int .u8 0)) :: (.val (.int .u8 0)) :: (.val (.int .u8 0)) :: (.val (.int .u8 0)) :: (.val (.int .u8 0)) :: (.val (.int .u8 0)) :: (.val (.int .u8 0)) :: (.val (.int .u8 0)) :: (.val (.int .u8 0)) :: (.val (.int .u8 0)) :: (.val (.int .u8 0)) :: (.val (.int .u8 0)) :: (.val (.int .u8 0)) :: (.val (.int .u8 0)) :: (.val (.int .u8 0)) :: (.val (.int .u8 0)) :: (.val (.int .u8 0)) :: (.val (.int .u8 0)) :: (.val (.int .u8 0)) :: (.val (.int .u8 0)) :: (.val (.int .u8 0)) :: (.val (.int .u8 0)) :: (.val (.int .u8 0)) :: (.val (.int .u8 0)) :: (.val (.int .u8 0)) :: []) [])⟩,
    ⟨(some 36), none, .call (.const (.func (.func F.seal_Make) [] [])) [(.const (.int 0)), (.const (.int 0)), (.const (.int 0)), (.const .nil), (.const .nil), (.tmp 35)]⟩,
    ⟨(some 34), none, .val (.mv (.tmp 36))⟩,
    ⟨(some 37), none, .val (.extract 0 (.tmp 34))⟩,
    ⟨(some 38), none, .val (.extract 1 (.tmp 34))⟩,
    ⟨(some 5), none, .alloc T.apiSealed ((.int 0) :: (.int 0) :: (.int 0) :: .nil :: (.val (.int .u8 0)) :: (.val (.int .u8 0)) :: (.val (.int .u8 0)) :: (.val (.int .u8 0)) :: (.val (.int .u8 0)) :: (.val (.int .u8 0)) :: (.val (.int .u8 0)) :: (.val (.int .u8 0)) :: (.val (.int .u8 0)) :: (.val (.int .u8 0)) :: (.val (.int .u8 0)) :: (.val (.int .u8 0)) :: (.val (.int .u8 0)) :: (.val (.int .u8 0)) :: (.val (.int .u8 0)) :: (.val (.int .u8 0)) :: (.val (.int .u8 0)) :: (.val (.int .u8 0)) :: (.val (.int .u8 0)) :: (.val (.int .u8 0)) :: (.val (.int .u8 0)) :: (.val (.int .u8 0)) :: (.val (.int .u8 0)) :: (.val (.int .u8 0)) :: (.val (.int .u8 0)) :: (.val (.int .u8 0)) :: (.val (.int .u8 0)) :: (.val (.int .u8 0)) :: (.val (.int .u8 0)) :: (.val (.int .u8 0)) :: (.val (.int .u8 0)) :: (.val (.int .u8 0)) :: [])⟩,
    ⟨none, none, .store 36 (.tmp 5) (.tmp 37)⟩,
    ⟨(some 6), none, .val (.mv (.tmp 38))⟩] [35, 36, 34, 37, 38, 5])
  (.seq (.region [
    ⟨(some 40), none, .val (.buildSlice T.int 1 [(.int 0)] [(0, 1, (.const (.int 1001)))])⟩,
    ⟨(some 41), none, .val (.buildSlice T.int 1 [(.int 0)] [(0, 1, (.const (.int 0)))])⟩,
    ⟨(some 42), none, .val (.build ((.val (.int .u8 0)) :: (.val (.int .u8 0)) :: (.val (.int .u8 0)) :: (.val (.int .u8 0)) :: (.val (.int .u8 0)) :: (.val (.int .u8 0)) :: (.val (.int .u8 0)) :: (.val (.int .u8 0)) :: (.val (.int .u8 0)) :: (.val (.int .u8 0)) :: (.val (.int .u8 0)) :: (.val (.int .u8 0)) :: (.val (.int .u8 0)) :: (.val (.int .u8 0)) :: (.val (.int .u8 0)) :: (.val (.int .u8 0)) :: (.val (.int .u8 0)) :: (.val (.int .u8 0)) :: (.val (.int .u8 0)) :: (.val (.int .u8 0)) :: (.val (.int .u8 0)) :: (.val (.int .u8 0)) :: (.val (.int .u8 0)) :: (.val (.int .u8 0)) :: (.val (.int .u8 0)) :: (.val (.int .u8 0)) :: (.val (.int .u8 0)) :: (.val (.int .u8 0)) :: (.val (.int .u8 0)) :: (.val (.int .u8 0)) :: (.val (.int .u8 0)) :: (.val (.int .u8 0)) :: []) [])⟩,
    ⟨(some 43), none, .call (.const (.func (.func F.seal_Make) [] [])) [(.const (.int 0)), (.const (.int 0)), (.const (.int 0)), (.tmp 40), (.tmp 41), (.tmp 42)]⟩,
    ⟨(some 39), none, .val (.mv (.tmp 43))⟩,
    ⟨(some 44), none, .val (.extract 0 (.tmp 39))⟩,
    ⟨(some 45), none, .val (.extract 1 (.tmp 39))⟩,
    ⟨(some 7), none, .alloc T.apiSealed ((.int 0) :: (.int 0) :: (.int 0) :: .nil :: (.val (.int .u8 0)) :: (.val (.int .u8 0)) :: (.val (.int .u8 0)) :: (.val (.int .u8 0)) :: (.val (.int .u8 0)) :: (.val (.int .u8 0)) :: (.val (.int .u8 0)) :: (.val (.int .u8 0)) :: (.val (.int .u8 0)) :: (.val (.int .u8 0)) :: (.val (.int .u8 0)) :: (.val (.int .u8 0)) :: (.val (.int .u8 0)) :: (.val (.int .u8 0)) :: (.val (.int .u8 0)) :: (.val (.int .u8 0)) :: (.val (.int .u8 0)) :: (.val (.int .u8 0)) :: (.val (.int .u8 0)) :: (.val (.int .u8 0)) :: (.val (.int .u8 0)) :: (.val (.int .u8 0)) :: (.val (.int .u8 0)) :: (.val (.int .u8 0)) :: (.val (.int .u8 0)) :: (.val (.int .u8 0)) :: (.val (.int .u8 0)) :: (.val (.int .u8 0)) :: (.val (.int .u8 0)) :: (.val (.int .u8 0)) :: (.val (.int .u8 0)) :: (.val (.int .u8 0)) :: [])⟩,
    ⟨none, none, .store 36 (.tmp 7) (.tmp 44)⟩,
    ⟨(some 8), none, .val (.mv (.tmp 45))⟩] [40, 41, 42, 43, 39, 44, 45, 7])
  (.seq (.region [
    ⟨(some 47), none, .val (.load 36 true (.tmp 1))⟩,
    ⟨(some 48), none, .val (.buildSlice T.int 2 [(.int 0), (.int 0)] [(0, 1, (.const (.int 1073741788))), (1, 1, (.const (.int 5)))])⟩,
    ⟨(some 49), none, .val (.build ((.val (.int .u8 0)) :: (.val (.int .u8 0)) :: (.val (.int .u8 0)) :: (.val (.int .u8 0)) :: (.val (.int .u8 0)) :: (.val (.int .u8 0)) :: (.val (.int .u8 0)) :: (.val (.int .u8 0)) :: (.val (.int .u8 0)) :: (.val (.int .u8 0)) :: (.val (.int .u8 0)) :: (.val (.int .u8 0)) :: (.val (.int .u8 0)) :: (.val (.int .u8 0)) :: (.val (.int .u8 0)) :: (.val (.int .u8 0)) :: (.val (.int .u8 0)) :: (.val (.int .u8 0)) :: (.val (.int .u8 0)) :: (.val (.int .u8 0)) :: (.val (.int .u8 0)) :: (.val (.int .u8 0)) :: (.val (.int .u8 0)) :: (.val (.int .u8 0)) :: (.val (.int .u8 0)) :: (.val (.int .u8 0)) :: (.val (.int .u8 0)) :: (.val (.int .u8 0)) :: (.val (.int .u8 0)) :: (.val (.int .u8 0)) :: (.val (.int .u8 0)) :: (.val (.int .u8 0)) :: []) [(0, 1, (.const (.val (.int .u8 9))))])⟩,
    ⟨(some 50), none, .call (.const (.func (.func F.seal_Open) [] [])) [(.tmp 47), (.tmp 48), (.tmp 49)]⟩,
    ⟨(some 46), none, .val (.mv (.tmp 50))⟩,
    ⟨(some 51), none, .val (.extract 0 (.tmp 46))⟩,
    ⟨(some 52), none, .val (.extract 1 (.tmp 46))⟩,
    ⟨(some 53), none, .val (.extract 2 (.tmp 46))⟩,
    ⟨(some 9), none, .val (.mv (.tmp 51))⟩,
    ⟨(some 10), none, .val (.mv (.tmp 52))⟩,
    ⟨(some 11), none, .val (.mv (.tmp 53))⟩] [47, 48, 49, 50, 46, 51, 52, 53])
  (.seq (.region [
    ⟨(some 55), none, .val (.load 36 true (.tmp 1))⟩,
    ⟨(some 56), none, .val (.buildSlice T.int 2 [(.int 0), (.int 0)] [(0, 1, (.const (.int 1073741788))), (1, 1, (.const (.int 6)))])⟩,
    ⟨(some 57), none, .val (.build ((.val (.int .u8 0)) :: (.val (.int .u8 0)) :: (.val (.int .u8 0)) :: (.val (.int .u8 0)) :: (.val (.int .u8 0)) :: (.val (.int .u8 0)) :: (.val (.int .u8 0)) :: (.val (.int .u8 0)) :: (.val (.int .u8 0)) :: (.val (.int .u8 0)) :: (.val (.int .u8 0)) :: (.val (.int .u8 0)) :: (.val (.int .u8 0)) :: (.val (.int .u8 0)) :: (.val (.int .u8 0)) :: (.val (.int .u8 0)) :: (.val (.int .u8 0)) :: (.val (.int .u8 0)) :: (.val (.int .u8 0)) :: (.val (.int .u8 0)) :: (.val (.int .u8 0)) :: (.val (.int .u8 0)) :: (.val (.int .u8 0)) :: (.val (.int .u8 0)) :: (.val (.int .u8 0)) :: (.val (.int .u8 0)) :: (.val (.int .u8 0)) :: (.val (.int .u8 0)) :: (.val (.int .u8 0)) :: (.val (.int .u8 0)) :: (.val (.int .u8 0)) :: (.val (.int .u8 0)) :: []) [(0, 1, (.const (.val (.int .u8 9))))])⟩,
    ⟨(some 58), none, .call (.const (.func (.func F.seal_Open) [] [])) [(.tmp 55), (.tmp 56), (.tmp 57)]⟩,
    ⟨(some 54), none, .val (.mv (.tmp 58))⟩,
    ⟨(some 59), none, .val (.extract 0 (.tmp 54))⟩,
    ⟨(some 60), none, .val (.extract 1 (.tmp 54))⟩,
    ⟨(some 61), none, .val (.extract 2 (.tmp 54))⟩,
    ⟨(some 12), none, .val (.mv (.tmp 59))⟩,
    ⟨(some 13), none, .val (.mv (.tmp 60))⟩,
    ⟨(some 14), none, .val (.mv (.tmp 61))⟩] [55, 56, 57, 58, 54, 59, 60, 61, 12])
  (.seq (.region [
    ⟨(some 63), none, .val (.load 36 true (.tmp 1))⟩,
    ⟨(some 64), none, .val (.buildSlice T.int 2 [(.int 0), (.int 0)] [(0, 1, (.const (.int 1073741788))), (1, 1, (.const (.int 3)))])⟩,
    ⟨(some 65), none, .call (.const (.func (.func F.seal_Strip) [] [])) [(.tmp 63), (.tmp 64)]⟩,
    ⟨(some 62), none, .val (.mv (.tmp 65))⟩,
    ⟨(some 66), none, .val (.extract 0 (.tmp 62))⟩,
    ⟨(some 67), none, .val (.extract 1 (.tmp 62))⟩,
    ⟨(some 15), none, .val (.mv (.tmp 66))⟩,
    ⟨(some 16), none, .val (.mv (.tmp 67))⟩] [63, 64, 65, 62, 66, 67])
  (.seq (.region [
    ⟨(some 69), none, .val (.buildSlice T.int 1 [(.int 0)] [(0, 1, (.const (.int 5)))])⟩,
    ⟨(some 70), none, .val (.build ((.int 0) :: (.int 0) :: (.int 0) :: .nil :: (.val (.int .u8 0)) :: (.val (.int .u8 0)) :: (.val (.int .u8 0)) :: (.val (.int .u8 0)) :: (.val (.int .u8 0)) :: (.val (.int .u8 0)) :: (.val (.int .u8 0)) :: (.val (.int .u8 0)) :: (.val (.int .u8 0)) :: (.val (.int .u8 0)) :: (.val (.int .u8 0)) :: (.val (.int .u8 0)) :: (.val (.int .u8 0)) :: (.val (.int .u8 0)) :: (.val (.int .u8 0)) :: (.val (.int .u8 0)) :: (.val (.int .u8 0)) :: (.val (.int .u8 0)) :: (.val (.int .u8 0)) :: (.val (.int .u8 0)) :: (.val (.int .u8 0)) :: (.val (.int .u8 0)) :: (.val (.int .u8 0)) :: (.val (.int .u8 0)) :: (.val (.int .u8 0)) :: (.val (.int .u8 0)) :: (.val (.int .u8 0)) :: (.val (.int .u8 0)) :: (.val (.int .u8 0)) :: (.val (.int .u8 0)) :: (.val (.int .u8 0)) :: (.val (.int .u8 0)) :: []) [(3, 1, (.tmp 69))])⟩,
    ⟨(some 71), none, .val (.buildSlice T.int 1 [(.int 0)] [(0, 1, (.const (.int 6)))])⟩,
    ⟨(some 72), none, .call (.const (.func (.func F.seal_Strip) [] [])) [(.tmp 70), (.tmp 71)]⟩,
    ⟨(some 68), none, .val (.mv (.tmp 72))⟩,
    ⟨(some 73), none, .val (.extract 0 (.tmp 68))⟩,
    ⟨(some 74), none, .val (.extract 1 (.tmp 68))⟩,
    ⟨(some 17), none, .val (.mv (.tmp 73))⟩,
    ⟨(some 18), none, .val (.mv (.tmp 74))⟩] [69, 70, 71, 72, 68, 73, 74, 17])
  (.seq (.region (
    ⟨(some 75), none, .val (.mv (.tmp 2))⟩ ::
    ⟨(some 76), none, .val (.bin .eql T.apiErrno (.tmp 75) (.const (.int 0)))⟩ ::
    ⟨(some 77), none, .val (.mv (.tmp 76))⟩ ::
    ⟨(some 78), (some (77, true)), .val (.mv (.tmp 4))⟩ ::
    ⟨(some 79), (some (77, true)), .val (.bin .eql T.apiErrno (.tmp 78) (.const (.int 340)))⟩ ::
    ⟨(some 80), none, .val (.pick (.tmp 77) (.tmp 79) (.const (.bool false)))⟩ ::
    ⟨(some 81), none, .val (.mv (.tmp 80))⟩ ::
    ⟨(some 82), (some (81, true)), .val (.mv (.tmp 6))⟩ ::
    ⟨(some 83), (some (81, true)), .val (.bin .eql T.apiErrno (.tmp 82) (.const (.int 340)))⟩ ::
    ⟨(some 84), none, .val (.pick (.tmp 81) (.tmp 83) (.const (.bool false)))⟩ ::
    ⟨(some 85), none, .val (.mv (.tmp 84))⟩ ::
    ⟨(some 86), (some (85, true)), .val (.mv (.tmp 8))⟩ ::
    ⟨(some 87), (some (85, true)), .val (.bin .eql T.apiErrno (.tmp 86) (.const (.int 340)))⟩ ::
    ⟨(some 88), none, .val (.pick (.tmp 85) (.tmp 87) (.const (.bool false)))⟩ ::
    ⟨(some 89), none, .val (.mv (.tmp 88))⟩ ::
    ⟨(some 90), (some (89, true)), .val (.mv (.tmp 11))⟩ ::
    ⟨(some 91), (some (89, true)), .val (.bin .eql T.apiErrno (.tmp 90) (.const (.int 0)))⟩ ::
    ⟨(some 92), none, .val (.pick (.tmp 89) (.tmp 91) (.const (.bool false)))⟩ ::
    ⟨(some 93), none, .val (.mv (.tmp 92))⟩ ::
    ⟨(some 94), (some (93, true)), .val (.mv (.tmp 14))⟩ ::
    ⟨(some 95), (some (93, true)), .val (.bin .eql T.apiErrno (.tmp 94) (.const (.int 0)))⟩ ::
    ⟨(some 96), none, .val (.pick (.tmp 93) (.tmp 95) (.const (.bool false)))⟩ ::
    ⟨(some 97), none, .val (.mv (.tmp 96))⟩ ::
    ⟨(some 98), (some (97, true)), .val (.mv (.tmp 16))⟩ ::
    ⟨(some 99), (some (97, true)), .val (.bin .eql T.apiErrno (.tmp 98) (.const (.int 0)))⟩ ::
    ⟨(some 100), none, .val (.pick (.tmp 97) (.tmp 99) (.const (.bool false)))⟩ ::
    ⟨(some 101), none, .val (.mv (.tmp 100))⟩ ::
    ⟨(some 102), (some (101, true)), .val (.mv (.tmp 18))⟩ ::
    ⟨(some 103), (some (101, true)), .val (.bin .eql T.apiErrno (.tmp 102) (.const (.int 340)))⟩ ::
    ⟨(some 104), none, .val (.pick (.tmp 101) (.tmp 103) (.const (.bool false)))⟩ ::
    ⟨(some 19), none, .val (.mv (.tmp 104))⟩ :: []) [75, 76, 77, 78, 79, 80, 81, 82, 83, 84, 85, 86, 87, 88, 89, 90, 91, 92, 93, 94, 95, 96, 97, 98, 99, 100, 101, 102, 103, 104])
  (.seq (.region (
    ⟨(some 105), none, .val (.mv (.tmp 19))⟩ ::
    ⟨(some 106), none, .val (.mv (.tmp 105))⟩ ::
    ⟨(some 107), (some (106, true)), .val (.fieldAddr 0 (.tmp 1))⟩ ::
    ⟨(some 108), (some (106, true)), .val (.load 1 false (.tmp 107))⟩ ::
    ⟨(some 109), (some (106, true)), .val (.bin .eql T.int (.tmp 108) (.const (.int 1)))⟩ ::
    ⟨(some 110), none, .val (.pick (.tmp 106) (.tmp 109) (.const (.bool false)))⟩ ::
    ⟨(some 111), none, .val (.mv (.tmp 110))⟩ ::
    ⟨(some 112), (some (111, true)), .val (.fieldAddr 1 (.tmp 1))⟩ ::
    ⟨(some 113), (some (111, true)), .val (.load 1 false (.tmp 112))⟩ ::
    ⟨(some 114), (some (111, true)), .val (.bin .eql T.int (.tmp 113) (.const (.int 2)))⟩ ::
    ⟨(some 115), none, .val (.pick (.tmp 111) (.tmp 114) (.const (.bool false)))⟩ ::
    ⟨(some 116), none, .val (.mv (.tmp 115))⟩ ::
    ⟨(some 117), (some (116, true)), .val (.fieldAddr 2 (.tmp 1))⟩ ::
    ⟨(some 118), (some (116, true)), .val (.load 1 false (.tmp 117))⟩ ::
    ⟨(some 119), (some (116, true)), .val (.bin .eql T.int (.tmp 118) (.const (.int 3)))⟩ ::
    ⟨(some 120), none, .val (.pick (.tmp 116) (.tmp 119) (.const (.bool false)))⟩ ::
    ⟨(some 121), none, .val (.mv (.tmp 120))⟩ ::
    ⟨(some 122), (some (121, true)), .val (.fieldAddr 3 (.tmp 1))⟩ ::
    ⟨(some 123), (some (121, true)), .val (.load 1 false (.tmp 122))⟩ ::
    ⟨(some 124), (some (121, true)), .val (.buildSlice T.int 2 [(.int 0), (.int 0)] [(0, 1, (.const (.int 6))), (1, 1, (.const (.int 5)))])⟩ ::
    ⟨(some 125), (some (121, true)), .call (.const (.func (.func F.podiumref34_SameInts) [] [])) [(.tmp 123), (.tmp 124)]⟩ ::
    ⟨(some 126), none, .val (.pick (.tmp 121) (.tmp 125) (.const (.bool false)))⟩ ::
    ⟨(some 127), none, .val (.mv (.tmp 126))⟩ ::
    ⟨(some 128), (some (127, true)), .val (.mv (.tmp 10))⟩ ::
    ⟨(some 129), none, .val (.pick (.tmp 127) (.tmp 128) (.const (.bool false)))⟩ ::
    ⟨(some 130), none, .val (.mv (.tmp 129))⟩ ::
    ⟨(some 131), (some (130, true)), .val (.mv (.tmp 9))⟩ ::
    ⟨(some 132), (some (130, true)), .val (.buildSlice T.int 2 [(.int 0), (.int 0)] [(0, 1, (.const (.int 7))), (1, 1, (.const (.int 0)))])⟩ ::
    ⟨(some 133), (some (130, true)), .call (.const (.func (.func F.podiumref34_SameInts) [] [])) [(.tmp 131), (.tmp 132)]⟩ ::
    ⟨(some 134), none, .val (.pick (.tmp 130) (.tmp 133) (.const (.bool false)))⟩ ::
    ⟨(some 135), none, .val (.mv (.tmp 134))⟩ ::
    ⟨(some 136), (some (135, true)), .val (.mv (.tmp 13))⟩ ::
    ⟨(some 137), (some (135, true)), .val (.un .not (.tmp 136))⟩ ::
    ⟨(some 138), none, .val (.pick (.tmp 135) (.tmp 137) (.const (.bool false)))⟩ ::
    ⟨(some 139), none, .val (.mv (.tmp 138))⟩ ::
    ⟨(some 140), (some (139, true)), .val (.mv (.tmp 15))⟩ ::
    ⟨(some 141), (some (139, true)), .val (.buildSlice T.int 2 [(.int 0), (.int 0)] [(0, 1, (.const (.int 7))), (1, 1, (.const (.int 2)))])⟩ ::
    ⟨(some 142), (some (139, true)), .call (.const (.func (.func F.podiumref34_SameInts) [] [])) [(.tmp 140), (.tmp 141)]⟩ ::
    ⟨(some 143), none, .val (.pick (.tmp 139) (.tmp 142) (.const (.bool false)))⟩ ::
    ⟨(some 144), none, .val (.mv (.tmp 143))⟩ ::
    ⟨(some 145), (some (144, true)), .val (.build ((.int 0) :: (.int 0) :: (.int 0) :: .nil :: (.val (.int .u8 0)) :: (.val (.int .u8 0)) :: (.val (.int .u8 0)) :: (.val (.int .u8 0)) :: (.val (.int .u8 0)) :: (.val (.int .u8 0)) :: (.val (.int .u8 0)) :: (.val (.int .u8 0)) :: (.val (.int .u8 0)) :: (.val (.int .u8 0)) :: (.val (.int .u8 0)) :: (.val (.int .u8 0)) :: (.val (.int .u8 0)) :: (.val (.int .u8 0)) :: (.val (.int .u8 0)) :: (.val (.int .u8 0)) :: (.val (.int .u8 0)) :: (.val (.int .u8 0)) :: (.val (.int .u8 0)) :: (.val (.int .u8 0)) :: (.val (.int .u8 0)) :: (.val (.int .u8 0)) :: (.val (.int .u8 0)) :: (.val (.int .u8 0)) :: (.val (.int .u8 0)) :: (.val (.int .u8 0)) :: (.val (.int .u8 0)) :: (.val (.int .u8 0)) :: (.val (.int .u8 0)) :: (.val (.int .u8 0)) :: (.val (.int .u8 0)) :: (.val (.int .u8 0)) :: []) [])⟩ ::
    ⟨(some 146), (some (144, true)), .call (.const (.func (.func F.seal_Check) [] [])) [(.tmp 145)]⟩ ::
    ⟨(some 147), (some (144, true)), .val (.bin .eql T.apiErrno (.tmp 146) (.const (.int 340)))⟩ ::
    ⟨(some 148), none, .val (.pick (.tmp 144) (.tmp 147) (.const (.bool false)))⟩ ::
    ⟨(some 149), none, .val (.mv (.tmp 148))⟩ ::
    ⟨(some 150), (some (149, true)), .val (.load 36 true (.tmp 1))⟩ ::
    ⟨(some 151), (some (149, true)), .call (.const (.func (.func F.seal_Check) [] [])) [(.tmp 150)]⟩ ::
    ⟨(some 152), (some (149, true)), .val (.bin .eql T.apiErrno (.tmp 151) (.const (.int 0)))⟩ ::
    ⟨(some 153), none, .val (.pick (.tmp 149) (.tmp 152) (.const (.bool false)))⟩ ::
    ⟨(some 0), none, .val (.mv (.tmp 153))⟩ :: []) (105 :: 106 :: 107 :: 108 :: 109 :: 110 :: 111 :: 112 :: 113 :: 114 :: 115 :: 116 :: 117 :: 118 :: 119 :: 120 :: 121 :: 122 :: 123 :: 124 :: 125 :: 126 :: 127 :: 128 :: 129 :: 130 :: 131 :: 132 :: 133 :: 134 :: 135 :: 136 :: 137 :: 138 :: 139 :: 140 :: 141 :: 142 :: 143 :: 144 :: 145 :: 146 :: 147 :: 148 :: 149 :: 150 :: 151 :: 152 :: 153 :: []))
  .ret)))))))))))⟩
theorem H.podiumlaw34_sane : Has P F.podiumlaw34_sane C.podiumlaw34_sane := ⟨Tryd.f8, Tryd.func8, by kernel_rfl, by kernel_rfl⟩

/-- podium/seal.Make -/
noncomputable def C.seal_Make : MDFunc := ⟨46, 6, [12, 13], [.cell 12 36 true, .cell 13 1 false],
  (.pre [] (.region [
    ⟨(some 11), none, .box T.apiDigest (.tmp 5)⟩,
    ⟨(some 12), none, .alloc T.apiSealed ((.int 0) :: (.int 0) :: (.int 0) :: .nil :: (.val (.int .u8 0)) :: (.val (.int .u8 0)) :: (.val (.int .u8 0)) :: (.val (.int .u8 0)) :: (.val (.int .u8 0)) :: (.val (.int .u8 0)) :: (.val (.int .u8 0)) :: (.val (.int .u8 0)) :: (.val (.int .u8 0)) :: (.val (.int .u8 0)) :: (.val (.int .u8 0)) :: (.val (.int .u8 0)) :: (.val (.int .u8 0)) :: (.val (.int .u8 0)) :: (.val (.int .u8 0)) :: (.val (.int .u8 0)) :: (.val (.int .u8 0)) :: (.val (.int .u8 0)) :: (.val (.int .u8 0)) :: (.val (.int .u8 0)) :: (.val (.int .u8 0)) :: (.val (.int .u8 0)) :: (.val (.int .u8 0)) :: (.val (.int .u8 0)) :: (.val (.int .u8 0)) :: (.val (.int .u8 0)) :: (.val (.int .u8 0)) :: (.val (.int .u8 0)) :: (.val (.int .u8 0)) :: (.val (.int .u8 0)) :: (.val (.int .u8 0)) :: (.val (.int .u8 0)) :: [])⟩,
    ⟨(some 13), none, .alloc T.apiErrno [(.int 0)]⟩] [])
  (.push (.const (.func (.func F.seal_caught) [] [])) [(.tmp 13)]
  (.pre [] (.region [
    ⟨(some 15), none, .val (.mv (.tmp 0))⟩,
    ⟨(some 16), none, .val (.mv (.tmp 1))⟩,
    ⟨(some 17), none, .val (.mv (.tmp 2))⟩,
    ⟨(some 18), none, .val (.build ((.int 0) :: (.int 0) :: (.int 0) :: .nil :: (.val (.int .u8 0)) :: (.val (.int .u8 0)) :: (.val (.int .u8 0)) :: (.val (.int .u8 0)) :: (.val (.int .u8 0)) :: (.val (.int .u8 0)) :: (.val (.int .u8 0)) :: (.val (.int .u8 0)) :: (.val (.int .u8 0)) :: (.val (.int .u8 0)) :: (.val (.int .u8 0)) :: (.val (.int .u8 0)) :: (.val (.int .u8 0)) :: (.val (.int .u8 0)) :: (.val (.int .u8 0)) :: (.val (.int .u8 0)) :: (.val (.int .u8 0)) :: (.val (.int .u8 0)) :: (.val (.int .u8 0)) :: (.val (.int .u8 0)) :: (.val (.int .u8 0)) :: (.val (.int .u8 0)) :: (.val (.int .u8 0)) :: (.val (.int .u8 0)) :: (.val (.int .u8 0)) :: (.val (.int .u8 0)) :: (.val (.int .u8 0)) :: (.val (.int .u8 0)) :: (.val (.int .u8 0)) :: (.val (.int .u8 0)) :: (.val (.int .u8 0)) :: (.val (.int .u8 0)) :: []) [(0, 1, (.tmp 15)), (1, 1, (.tmp 16)), (2, 1, (.tmp 17))])⟩,
    ⟨(some 14), none, .alloc T.apiSealed ((.int 0) :: (.int 0) :: (.int 0) :: .nil :: (.val (.int .u8 0)) :: (.val (.int .u8 0)) :: (.val (.int .u8 0)) :: (.val (.int .u8 0)) :: (.val (.int .u8 0)) :: (.val (.int .u8 0)) :: (.val (.int .u8 0)) :: (.val (.int .u8 0)) :: (.val (.int .u8 0)) :: (.val (.int .u8 0)) :: (.val (.int .u8 0)) :: (.val (.int .u8 0)) :: (.val (.int .u8 0)) :: (.val (.int .u8 0)) :: (.val (.int .u8 0)) :: (.val (.int .u8 0)) :: (.val (.int .u8 0)) :: (.val (.int .u8 0)) :: (.val (.int .u8 0)) :: (.val (.int .u8 0)) :: (.val (.int .u8 0)) :: (.val (.int .u8 0)) :: (.val (.int .u8 0)) :: (.val (.int .u8 0)) :: (.val (.int .u8 0)) :: (.val (.int .u8 0)) :: (.val (.int .u8 0)) :: (.val (.int .u8 0)) :: (.val (.int .u8 0)) :: (.val (.int .u8 0)) :: (.val (.int .u8 0)) :: (.val (.int .u8 0)) :: [])⟩,
    ⟨none, none, .store 36 (.tmp 14) (.tmp 18)⟩] [15, 16, 17, 18])
  (.pre [] (.region [
    ⟨(some 19), none, .val (.load 36 true (.tmp 14))⟩,
    ⟨(some 20), none, .call (.const (.func (.func F.seal_placed) [] [])) [(.tmp 19)]⟩] [19, 20])
  (.pre [] (.region [
    ⟨(some 21), none, .val (.mv (.tmp 3))⟩,
    ⟨(some 22), none, .call (.const (.func (.func F.seal_all) [] [])) [(.tmp 21), (.const (.int 1000))]⟩,
    ⟨(some 23), none, .val (.mv (.tmp 22))⟩,
    ⟨(some 24), (some (23, true)), .val (.mv (.tmp 4))⟩,
    ⟨(some 25), (some (23, true)), .call (.const (.func (.func F.seal_all) [] [])) [(.tmp 24), (.const (.int 1073741788))]⟩,
    ⟨(some 26), none, .val (.pick (.tmp 23) (.tmp 25) (.const (.bool false)))⟩,
    ⟨(some 27), none, .val (.mv (.tmp 26))⟩,
    ⟨(some 28), (some (27, true)), .val (.mv (.tmp 3))⟩,
    ⟨(some 29), (some (27, true)), .val (.len (.tmp 28))⟩,
    ⟨(some 30), (some (27, true)), .val (.mv (.tmp 4))⟩,
    ⟨(some 31), (some (27, true)), .val (.len (.tmp 30))⟩,
    ⟨(some 32), (some (27, true)), .val (.bin .eql T.int (.tmp 29) (.tmp 31))⟩,
    ⟨(some 33), none, .val (.pick (.tmp 27) (.tmp 32) (.const (.bool false)))⟩,
    ⟨(some 34), none, .call (.const (.func (.func F.seal_need) [] [])) [(.tmp 33)]⟩] [21, 22, 23, 24, 25, 26, 27, 28, 29, 30, 31, 32, 33, 34])
  (.pre [] (.region [
    ⟨(some 35), none, .val (.mv (.tmp 3))⟩,
    ⟨(some 36), none, .val (.mv (.tmp 4))⟩,
    ⟨(some 37), none, .call (.const (.func (.func F.seal_zip__int_int_int) [] [])) [(.tmp 35), (.tmp 36), (.const (.func (.func F.seal_Make_1) [] []))]⟩,
    ⟨(some 38), none, .val (.fieldAddr 3 (.tmp 14))⟩,
    ⟨none, none, .store 1 (.tmp 38) (.tmp 37)⟩] [35, 36, 37, 38])
  (.pre [] (.region [
    ⟨(some 39), none, .val (.load 36 true (.tmp 14))⟩,
    ⟨(some 40), none, .val (.mv (.tmp 3))⟩,
    ⟨(some 41), none, .val (.mv (.tmp 4))⟩,
    ⟨(some 42), none, .val (.load 32 true (.tmp 11))⟩,
    ⟨(some 43), none, .call (.const (.func (.func F.seal_commit) [] [])) [(.tmp 39), (.tmp 40), (.tmp 41), (.tmp 42)]⟩,
    ⟨(some 44), none, .val (.fieldAddr 4 (.tmp 14))⟩,
    ⟨none, none, .store 32 (.tmp 44) (.tmp 43)⟩] [39, 40, 41, 42, 43, 44])
  (.pre [] (.region [
    ⟨(some 45), none, .val (.load 36 true (.tmp 14))⟩,
    ⟨none, none, .store 36 (.tmp 12) (.tmp 45)⟩,
    ⟨none, none, .store 1 (.tmp 13) (.const (.int 0))⟩] [45])
  (.pre [] .ret
  .done)))))))))⟩
theorem H.seal_Make : HasD P F.seal_Make C.seal_Make := ⟨Tryd.f9, Tryd.func9, by kernel_rfl, by kernel_rfl⟩

/-- podium/seal.Check -/
noncomputable def C.seal_Check : MDFunc := ⟨9, 1, [2], [.cell 2 1 false],
  (.pre [] (.region [
    ⟨(some 1), none, .box T.apiSealed (.tmp 0)⟩,
    ⟨(some 2), none, .alloc T.apiErrno [(.int 0)]⟩] [])
  (.push (.const (.func (.func F.seal_caught) [] [])) [(.tmp 2)]
  (.pre [] (.region [
    ⟨(some 3), none, .val (.load 36 true (.tmp 1))⟩,
    ⟨(some 4), none, .call (.const (.func (.func F.seal_placed) [] [])) [(.tmp 3)]⟩] [3, 4])
  (.pre [] (.region [
    ⟨(some 5), none, .val (.fieldAddr 3 (.tmp 1))⟩,
    ⟨(some 6), none, .val (.load 1 false (.tmp 5))⟩,
    ⟨(some 7), none, .call (.const (.func (.func F.seal_all) [] [])) [(.tmp 6), (.const (.int 1073741788))]⟩,
    ⟨(some 8), none, .call (.const (.func (.func F.seal_need) [] [])) [(.tmp 7)]⟩] [5, 6, 7, 8])
  (.pre [] (.region [
    ⟨none, none, .store 1 (.tmp 2) (.const (.int 0))⟩] [])
  (.pre [] .ret
  .done))))))⟩
theorem H.seal_Check : HasD P F.seal_Check C.seal_Check := ⟨Tryd.f12, Tryd.func12, by kernel_rfl, by kernel_rfl⟩

/-- podium/podiumref34.Check -/
noncomputable def C.podiumref34_Check : MFunc := ⟨17, 1, [.tmp 2],
  (.seq (.region [
    ⟨(some 1), none, .box T.apiSealed (.tmp 0)⟩,
    ⟨(some 2), none, .val (.mv (.const (.int 0)))⟩] [])
  (.seq (.seq (.region [
    ⟨(some 3), none, .val (.fieldAddr 0 (.tmp 1))⟩,
    ⟨(some 4), none, .val (.load 1 false (.tmp 3))⟩,
    ⟨(some 5), none, .val (.fieldAddr 1 (.tmp 1))⟩,
    ⟨(some 6), none, .val (.load 1 false (.tmp 5))⟩,
    ⟨(some 7), none, .val (.fieldAddr 2 (.tmp 1))⟩,
    ⟨(some 8), none, .val (.load 1 false (.tmp 7))⟩,
    ⟨(some 9), none, .call (.const (.func (.func F.podiumref34_place) [] [])) [(.tmp 4), (.tmp 6), (.tmp 8)]⟩,
    ⟨(some 10), none, .val (.un .not (.tmp 9))⟩,
    ⟨(some 11), none, .val (.mv (.tmp 10))⟩,
    ⟨(some 12), (some (11, false)), .val (.fieldAddr 3 (.tmp 1))⟩,
    ⟨(some 13), (some (11, false)), .val (.load 1 false (.tmp 12))⟩,
    ⟨(some 14), (some (11, false)), .call (.const (.func (.func F.podiumref34_Keys) [] [])) [(.tmp 13)]⟩,
    ⟨(some 15), (some (11, false)), .val (.un .not (.tmp 14))⟩,
    ⟨(some 16), none, .val (.pick (.tmp 11) (.const (.bool true)) (.tmp 15))⟩] [3, 4, 5, 6, 7, 8, 9, 10, 11, 12, 13, 14, 15])
  (.cond (.tmp 16)
  (.seq (.region [
    ⟨(some 2), none, .val (.mv (.const (.int 340)))⟩] [])
  .ret)
  .skip))
  (.seq (.region [
    ⟨(some 2), none, .val (.mv (.const (.int 0)))⟩] [])
  .ret)))⟩
theorem H.podiumref34_Check : Has P F.podiumref34_Check C.podiumref34_Check := ⟨Tryd.f13, Tryd.func13, by kernel_rfl, by kernel_rfl⟩

/-- podium/seal.Open -/
noncomputable def C.seal_Open : MDFunc := ⟨27, 3, [8], [.tmp 6, .tmp 7, .cell 8 1 false],
  (.pre [] (.region [
    ⟨(some 3), none, .box T.apiSealed (.tmp 0)⟩,
    ⟨(some 5), none, .box T.apiDigest (.tmp 2)⟩,
    ⟨(some 6), none, .val (.mv (.const .nil))⟩,
    ⟨(some 7), none, .val (.mv (.const (.bool false)))⟩,
    ⟨(some 8), none, .alloc T.apiErrno [(.int 0)]⟩] [])
  (.push (.const (.func (.func F.seal_caught) [] [])) [(.tmp 8)]
  (.pre [6, 7] (.region [
    ⟨(some 10), none, .val (.load 36 true (.tmp 3))⟩,
    ⟨(some 11), none, .val (.mv (.tmp 1))⟩,
    ⟨(some 12), none, .call (.const (.func (.func F.seal_bare) [] [])) [(.tmp 10), (.tmp 11)]⟩,
    ⟨(some 9), none, .val (.mv (.tmp 12))⟩] [10, 11, 12])
  (.pre [6, 7] (.draw true [
    (.early, ⟨(some 13), none, .val (.mv (.tmp 9))⟩),
    (.hard, ⟨(some 14), none, .call (.const (.func (.func F.seal_all) [] [])) [(.tmp 13), (.const (.int 1000))]⟩),
    (.late, ⟨(some 15), none, .val (.un .not (.tmp 14))⟩),
    (.late, ⟨(some 16), none, .val (.mv (.tmp 15))⟩),
    (.late, ⟨(some 17), (some (16, false)), .val (.load 36 true (.tmp 3))⟩),
    (.late, ⟨(some 18), (some (16, false)), .val (.mv (.tmp 9))⟩),
    (.late, ⟨(some 19), (some (16, false)), .val (.mv (.tmp 1))⟩),
    (.late, ⟨(some 20), (some (16, false)), .val (.load 32 true (.tmp 5))⟩),
    (.late, ⟨(some 22), (some (16, false)), .val (.fieldAddr 4 (.tmp 3))⟩),
    (.late, ⟨(some 23), (some (16, false)), .val (.load 32 true (.tmp 22))⟩),
    (.hard, ⟨(some 21), (some (16, false)), .call (.const (.func (.func F.seal_commit) [] [])) [(.tmp 17), (.tmp 18), (.tmp 19), (.tmp 20)]⟩),
    (.late, ⟨(some 24), (some (16, false)), .val (.eqAgg true (.int :: .int :: .int :: .int :: .int :: .int :: .int :: .int :: .int :: .int :: .int :: .int :: .int :: .int :: .int :: .int :: .int :: .int :: .int :: .int :: .int :: .int :: .int :: .int :: .int :: .int :: .int :: .int :: .int :: .int :: .int :: .int :: []) (.tmp 21) (.tmp 23))⟩),
    (.late, ⟨(some 25), none, .val (.pick (.tmp 16) (.const (.bool true)) (.tmp 24))⟩)] [13, 14, 15, 16, 17, 18, 19, 20, 21, 22, 23, 24])
  (.pre [] (.cond (.tmp 25)
  (.seq (.region [
    ⟨(some 6), none, .val (.mv (.const .nil))⟩,
    ⟨(some 7), none, .val (.mv (.const (.bool false)))⟩,
    ⟨none, none, .store 1 (.tmp 8) (.const (.int 0))⟩] [])
  .ret)
  .skip)
  (.pre [] (.region [
    ⟨(some 26), none, .val (.mv (.tmp 9))⟩,
    ⟨(some 6), none, .val (.mv (.tmp 26))⟩,
    ⟨(some 7), none, .val (.mv (.const (.bool true)))⟩,
    ⟨none, none, .store 1 (.tmp 8) (.const (.int 0))⟩] [26])
  (.pre [6, 7] .ret
  .done)))))))⟩
theorem H.seal_Open : HasD P F.seal_Open C.seal_Open := ⟨Tryd.f14, Tryd.func14, by kernel_rfl, by kernel_rfl⟩

/-- podium/podiumref34.Open -/
noncomputable def C.podiumref34_Open : MFunc := ⟨40, 3, [.tmp 6, .tmp 7, .tmp 8],
  (.seq (.region [
    ⟨(some 3), none, .box T.apiSealed (.tmp 0)⟩,
    ⟨(some 5), none, .box T.apiDigest (.tmp 2)⟩,
    ⟨(some 6), none, .val (.mv (.const .nil))⟩,
    ⟨(some 7), none, .val (.mv (.const (.bool false)))⟩,
    ⟨(some 8), none, .val (.mv (.const (.int 0)))⟩] [])
  (.seq (.region [
    ⟨(some 12), none, .val (.load 36 true (.tmp 3))⟩,
    ⟨(some 13), none, .val (.mv (.tmp 1))⟩,
    ⟨(some 14), none, .call (.const (.func (.func F.podiumref34_bare) [] [])) [(.tmp 12), (.tmp 13)]⟩,
    ⟨(some 11), none, .val (.mv (.tmp 14))⟩,
    ⟨(some 15), none, .val (.extract 0 (.tmp 11))⟩,
    ⟨(some 16), none, .val (.extract 1 (.tmp 11))⟩,
    ⟨(some 9), none, .val (.mv (.tmp 15))⟩,
    ⟨(some 10), none, .val (.mv (.tmp 16))⟩] [12, 13, 14, 11, 15, 16])
  (.seq (.seq (.region [
    ⟨(some 17), none, .val (.mv (.tmp 10))⟩,
    ⟨(some 18), none, .val (.bin .neq T.apiErrno (.tmp 17) (.const (.int 0)))⟩] [17])
  (.cond (.tmp 18)
  (.seq (.region [
    ⟨(some 19), none, .val (.mv (.tmp 10))⟩,
    ⟨(some 6), none, .val (.mv (.const .nil))⟩,
    ⟨(some 7), none, .val (.mv (.const (.bool false)))⟩,
    ⟨(some 8), none, .val (.mv (.tmp 19))⟩] [19])
  .ret)
  .skip))
  (.seq (.seq (.draw true [
    (.early, ⟨(some 20), none, .val (.mv (.tmp 9))⟩),
    (.hard, ⟨(some 21), none, .call (.const (.func (.func F.podiumref34_Marks) [] [])) [(.tmp 20)]⟩),
    (.late, ⟨(some 22), none, .val (.un .not (.tmp 21))⟩),
    (.late, ⟨(some 23), none, .val (.mv (.tmp 22))⟩),
    (.late, ⟨(some 24), (some (23, false)), .val (.fieldAddr 0 (.tmp 3))⟩),
    (.late, ⟨(some 25), (some (23, false)), .val (.load 1 false (.tmp 24))⟩),
    (.late, ⟨(some 26), (some (23, false)), .val (.fieldAddr 1 (.tmp 3))⟩),
    (.late, ⟨(some 27), (some (23, false)), .val (.load 1 false (.tmp 26))⟩),
    (.late, ⟨(some 28), (some (23, false)), .val (.fieldAddr 2 (.tmp 3))⟩),
    (.late, ⟨(some 29), (some (23, false)), .val (.load 1 false (.tmp 28))⟩),
    (.late, ⟨(some 30), (some (23, false)), .val (.mv (.tmp 9))⟩),
    (.late, ⟨(some 31), (some (23, false)), .val (.mv (.tmp 1))⟩),
    (.late, ⟨(some 32), (some (23, false)), .val (.load 32 true (.tmp 5))⟩),
    (.late, ⟨(some 35), (some (23, false)), .val (.fieldAddr 4 (.tmp 3))⟩),
    (.late, ⟨(some 36), (some (23, false)), .val (.load 32 true (.tmp 35))⟩),
    (.hard, ⟨(some 33), (some (23, false)), .call (.const (.func (.func F.podiumref34_Text) [] [])) [(.tmp 25), (.tmp 27), (.tmp 29), (.tmp 30), (.tmp 31), (.tmp 32)]⟩),
    (.hard, ⟨(some 34), (some (23, false)), .call (.const (.func (.func F.podiumref02_Tagged) [] [])) [(.const (.val (.string ⟨#[99, 97, 114, 100]⟩))), (.tmp 33)]⟩),
    (.late, ⟨(some 37), (some (23, false)), .val (.eqAgg true (.int :: .int :: .int :: .int :: .int :: .int :: .int :: .int :: .int :: .int :: .int :: .int :: .int :: .int :: .int :: .int :: .int :: .int :: .int :: .int :: .int :: .int :: .int :: .int :: .int :: .int :: .int :: .int :: .int :: .int :: .int :: .int :: []) (.tmp 34) (.tmp 36))⟩),
    (.late, ⟨(some 38), none, .val (.pick (.tmp 23) (.const (.bool true)) (.tmp 37))⟩)] [20, 21, 22, 23, 24, 25, 26, 27, 28, 29, 30, 31, 32, 33, 34, 35, 36, 37])
  (.cond (.tmp 38)
  (.seq (.region [
    ⟨(some 6), none, .val (.mv (.const .nil))⟩,
    ⟨(some 7), none, .val (.mv (.const (.bool false)))⟩,
    ⟨(some 8), none, .val (.mv (.const (.int 0)))⟩] [])
  .ret)
  .skip))
  (.seq (.region [
    ⟨(some 39), none, .val (.mv (.tmp 9))⟩,
    ⟨(some 6), none, .val (.mv (.tmp 39))⟩,
    ⟨(some 7), none, .val (.mv (.const (.bool true)))⟩,
    ⟨(some 8), none, .val (.mv (.const (.int 0)))⟩] [39])
  .ret)))))⟩
theorem H.podiumref34_Open : Has P F.podiumref34_Open C.podiumref34_Open := ⟨Tryd.f15, Tryd.func15, by kernel_rfl, by kernel_rfl⟩

/-- podium/seal.Strip -/
noncomputable def C.seal_Strip : MDFunc := ⟨14, 2, [5], [.tmp 4, .cell 5 1 false],
  (.pre [] (.region [
    ⟨(some 2), none, .box T.apiSealed (.tmp 0)⟩,
    ⟨(some 4), none, .val (.mv (.const .nil))⟩,
    ⟨(some 5), none, .alloc T.apiErrno [(.int 0)]⟩] [])
  (.push (.const (.func (.func F.seal_caught) [] [])) [(.tmp 5)]
  (.pre [4] (.region [
    ⟨(some 7), none, .val (.load 36 true (.tmp 2))⟩,
    ⟨(some 8), none, .val (.mv (.tmp 1))⟩,
    ⟨(some 9), none, .call (.const (.func (.func F.seal_bare) [] [])) [(.tmp 7), (.tmp 8)]⟩,
    ⟨(some 6), none, .val (.mv (.tmp 9))⟩] [7, 8, 9])
  (.pre [4] (.region [
    ⟨(some 10), none, .val (.mv (.tmp 6))⟩,
    ⟨(some 11), none, .call (.const (.func (.func F.seal_all) [] [])) [(.tmp 10), (.const (.int 1000))]⟩,
    ⟨(some 12), none, .call (.const (.func (.func F.seal_need) [] [])) [(.tmp 11)]⟩] [10, 11, 12])
  (.pre [] (.region [
    ⟨(some 13), none, .val (.mv (.tmp 6))⟩,
    ⟨(some 4), none, .val (.mv (.tmp 13))⟩,
    ⟨none, none, .store 1 (.tmp 5) (.const (.int 0))⟩] [13])
  (.pre [4] .ret
  .done))))))⟩
theorem H.seal_Strip : HasD P F.seal_Strip C.seal_Strip := ⟨Tryd.f16, Tryd.func16, by kernel_rfl, by kernel_rfl⟩

/-- podium/podiumref34.Strip -/
noncomputable def C.podiumref34_Strip : MFunc := ⟨22, 2, [.tmp 4, .tmp 5],
  (.seq (.region [
    ⟨(some 2), none, .box T.apiSealed (.tmp 0)⟩,
    ⟨(some 4), none, .val (.mv (.const .nil))⟩,
    ⟨(some 5), none, .val (.mv (.const (.int 0)))⟩] [])
  (.seq (.region [
    ⟨(some 9), none, .val (.load 36 true (.tmp 2))⟩,
    ⟨(some 10), none, .val (.mv (.tmp 1))⟩,
    ⟨(some 11), none, .call (.const (.func (.func F.podiumref34_bare) [] [])) [(.tmp 9), (.tmp 10)]⟩,
    ⟨(some 8), none, .val (.mv (.tmp 11))⟩,
    ⟨(some 12), none, .val (.extract 0 (.tmp 8))⟩,
    ⟨(some 13), none, .val (.extract 1 (.tmp 8))⟩,
    ⟨(some 6), none, .val (.mv (.tmp 12))⟩,
    ⟨(some 7), none, .val (.mv (.tmp 13))⟩] [9, 10, 11, 8, 12, 13])
  (.seq (.seq (.region [
    ⟨(some 14), none, .val (.mv (.tmp 7))⟩,
    ⟨(some 15), none, .val (.bin .neq T.apiErrno (.tmp 14) (.const (.int 0)))⟩,
    ⟨(some 16), none, .val (.mv (.tmp 15))⟩,
    ⟨(some 17), (some (16, false)), .val (.mv (.tmp 6))⟩,
    ⟨(some 18), (some (16, false)), .call (.const (.func (.func F.podiumref34_Marks) [] [])) [(.tmp 17)]⟩,
    ⟨(some 19), (some (16, false)), .val (.un .not (.tmp 18))⟩,
    ⟨(some 20), none, .val (.pick (.tmp 16) (.const (.bool true)) (.tmp 19))⟩] [14, 15, 16, 17, 18, 19])
  (.cond (.tmp 20)
  (.seq (.region [
    ⟨(some 4), none, .val (.mv (.const .nil))⟩,
    ⟨(some 5), none, .val (.mv (.const (.int 340)))⟩] [])
  .ret)
  .skip))
  (.seq (.region [
    ⟨(some 21), none, .val (.mv (.tmp 6))⟩,
    ⟨(some 4), none, .val (.mv (.tmp 21))⟩,
    ⟨(some 5), none, .val (.mv (.const (.int 0)))⟩] [21])
  .ret))))⟩
theorem H.podiumref34_Strip : Has P F.podiumref34_Strip C.podiumref34_Strip := ⟨Tryd.f17, Tryd.func17, by kernel_rfl, by kernel_rfl⟩

/-- podium/podiumref34.SameInts -/
noncomputable def C.podiumref34_SameInts : MFunc := ⟨26, 2, [.tmp 4],
  (.seq (.region [
    ⟨(some 4), none, .val (.mv (.const (.bool false)))⟩] [])
  (.seq (.seq (.region [
    ⟨(some 6), none, .val (.mv (.tmp 0))⟩,
    ⟨(some 7), none, .val (.len (.tmp 6))⟩,
    ⟨(some 8), none, .val (.mv (.tmp 1))⟩,
    ⟨(some 9), none, .val (.len (.tmp 8))⟩,
    ⟨(some 10), none, .val (.bin .neq T.int (.tmp 7) (.tmp 9))⟩] [6, 7, 8, 9])
  (.cond (.tmp 10)
  (.seq (.region [
    ⟨(some 4), none, .val (.mv (.const (.bool false)))⟩] [])
  .ret)
  .skip))
  (.seq (.seq (.region [
    ⟨(some 5), none, .val (.mv (.const (.int 0)))⟩] [])
  (.block 0 (.loop (.seq (.seq (.region [
    ⟨(some 11), none, .val (.mv (.tmp 5))⟩,
    ⟨(some 12), none, .val (.mv (.tmp 0))⟩,
    ⟨(some 13), none, .val (.len (.tmp 12))⟩,
    ⟨(some 14), none, .val (.bin .lss T.int (.tmp 11) (.tmp 13))⟩] [11, 12, 13])
  (.cond (.tmp 14)
  .skip
  (.exit 0)))
  (.seq (.block 1 (.seq (.draw false [
    (.early, ⟨(some 17), none, .val (.mv (.tmp 0))⟩),
    (.early, ⟨(some 18), none, .val (.mv (.tmp 5))⟩),
    (.early, ⟨(some 19), none, .val (.indexAddr 1 (.tmp 17) (.tmp 18))⟩),
    (.early, ⟨(some 20), none, .val (.load 1 false (.tmp 19))⟩),
    (.early, ⟨(some 21), none, .val (.mv (.tmp 1))⟩),
    (.early, ⟨(some 22), none, .val (.mv (.tmp 5))⟩),
    (.early, ⟨(some 23), none, .val (.indexAddr 1 (.tmp 21) (.tmp 22))⟩),
    (.early, ⟨(some 24), none, .val (.load 1 false (.tmp 23))⟩),
    (.early, ⟨(some 25), none, .val (.bin .neq T.int (.tmp 20) (.tmp 24))⟩)] [17, 18, 19, 20, 21, 22, 23, 24])
  (.cond (.tmp 25)
  (.seq (.region [
    ⟨(some 4), none, .val (.mv (.const (.bool false)))⟩] [])
  .ret)
  .skip)))
  (.region [
    ⟨(some 15), none, .val (.mv (.tmp 5))⟩,
    ⟨(some 16), none, .val (.bin .add T.int (.tmp 15) (.const (.int 1)))⟩,
    ⟨(some 5), none, .val (.mv (.tmp 16))⟩] [15, 16]))))))
  (.seq (.region [
    ⟨(some 4), none, .val (.mv (.const (.bool true)))⟩] [])
  .ret))))⟩
theorem H.podiumref34_SameInts : Has P F.podiumref34_SameInts C.podiumref34_SameInts := ⟨Tryd.f18, Tryd.func18, by kernel_rfl, by kernel_rfl⟩

/-- podium/podiumlaw34.few -/
noncomputable def C.podiumlaw34_few : MFunc := ⟨18, 2, [.tmp 4],
  (.seq (.region [
    ⟨(some 4), none, .val (.mv (.const (.bool false)))⟩] [])
  (.seq (.region [
    ⟨(some 5), none, .val (.mv (.tmp 0))⟩,
    ⟨(some 6), none, .call (.const (.func (.func F.podiumref34_Marks) [] [])) [(.tmp 5)]⟩,
    ⟨(some 7), none, .val (.mv (.tmp 6))⟩,
    ⟨(some 8), (some (7, true)), .val (.mv (.tmp 1))⟩,
    ⟨(some 9), (some (7, true)), .call (.const (.func (.func F.podiumref34_Keys) [] [])) [(.tmp 8)]⟩,
    ⟨(some 10), none, .val (.pick (.tmp 7) (.tmp 9) (.const (.bool false)))⟩,
    ⟨(some 11), none, .val (.mv (.tmp 10))⟩,
    ⟨(some 12), (some (11, true)), .val (.mv (.tmp 0))⟩,
    ⟨(some 13), (some (11, true)), .val (.len (.tmp 12))⟩,
    ⟨(some 14), (some (11, true)), .val (.mv (.tmp 1))⟩,
    ⟨(some 15), (some (11, true)), .val (.len (.tmp 14))⟩,
    ⟨(some 16), (some (11, true)), .val (.bin .eql T.int (.tmp 13) (.tmp 15))⟩,
    ⟨(some 17), none, .val (.pick (.tmp 11) (.tmp 16) (.const (.bool false)))⟩,
    ⟨(some 4), none, .val (.mv (.tmp 17))⟩] [5, 6, 7, 8, 9, 10, 11, 12, 13, 14, 15, 16, 17])
  .ret))⟩
theorem H.podiumlaw34_few : Has P F.podiumlaw34_few C.podiumlaw34_few := ⟨Tryd.f19, Tryd.func19, by kernel_rfl, by kernel_rfl⟩

/-- podium/digest.Tagged -/
noncomputable def C.digest_Tagged : MFunc := ⟨14, 2, [.cell 4 32 true],
  (.seq (.region [
    ⟨(some 4), none, .alloc T.apiDigest ((.val (.int .u8 0)) :: (.val (.int .u8 0)) :: (.val (.int .u8 0)) :: (.val (.int .u8 0)) :: (.val (.int .u8 0)) :: (.val (.int .u8 0)) :: (.val (.int .u8 0)) :: (.val (.int .u8 0)) :: (.val (.int .u8 0)) :: (.val (.int .u8 0)) :: (.val (.int .u8 0)) :: (.val (.int .u8 0)) :: (.val (.int .u8 0)) :: (.val (.int .u8 0)) :: (.val (.int .u8 0)) :: (.val (.int .u8 0)) :: (.val (.int .u8 0)) :: (.val (.int .u8 0)) :: (.val (.int .u8 0)) :: (.val (.int .u8 0)) :: (.val (.int .u8 0)) :: (.val (.int .u8 0)) :: (.val (.int .u8 0)) :: (.val (.int .u8 0)) :: (.val (.int .u8 0)) :: (.val (.int .u8 0)) :: (.val (.int .u8 0)) :: (.val (.int .u8 0)) :: (.val (.int .u8 0)) :: (.val (.int .u8 0)) :: (.val (.int .u8 0)) :: (.val (.int .u8 0)) :: [])⟩] [])
  (.seq (.region [
    ⟨(some 6), none, .val (.mv (.tmp 0))⟩,
    ⟨(some 7), none, .bytes (.tmp 6)⟩,
    ⟨(some 8), none, .call (.const (.func (.func F.digest_Sum) [] [])) [(.tmp 7)]⟩,
    ⟨(some 5), none, .alloc T.apiDigest ((.val (.int .u8 0)) :: (.val (.int .u8 0)) :: (.val (.int .u8 0)) :: (.val (.int .u8 0)) :: (.val (.int .u8 0)) :: (.val (.int .u8 0)) :: (.val (.int .u8 0)) :: (.val (.int .u8 0)) :: (.val (.int .u8 0)) :: (.val (.int .u8 0)) :: (.val (.int .u8 0)) :: (.val (.int .u8 0)) :: (.val (.int .u8 0)) :: (.val (.int .u8 0)) :: (.val (.int .u8 0)) :: (.val (.int .u8 0)) :: (.val (.int .u8 0)) :: (.val (.int .u8 0)) :: (.val (.int .u8 0)) :: (.val (.int .u8 0)) :: (.val (.int .u8 0)) :: (.val (.int .u8 0)) :: (.val (.int .u8 0)) :: (.val (.int .u8 0)) :: (.val (.int .u8 0)) :: (.val (.int .u8 0)) :: (.val (.int .u8 0)) :: (.val (.int .u8 0)) :: (.val (.int .u8 0)) :: (.val (.int .u8 0)) :: (.val (.int .u8 0)) :: (.val (.int .u8 0)) :: [])⟩,
    ⟨none, none, .store 32 (.tmp 5) (.tmp 8)⟩] [6, 7, 8])
  (.seq (.region [
    ⟨(some 9), none, .val (.sliceArr 32 1 (.tmp 5) none none none)⟩,
    ⟨(some 10), none, .val (.mv (.tmp 1))⟩,
    ⟨(some 11), none, .val (.buildSlice T.Luint8 2 [.nil, .nil] [(0, 1, (.tmp 9)), (1, 1, (.tmp 10))])⟩,
    ⟨(some 12), none, .call (.const (.func (.func F.slices_Concat__Lbyte_byte) [] [])) [(.tmp 11)]⟩,
    ⟨(some 13), none, .call (.const (.func (.func F.digest_Sum) [] [])) [(.tmp 12)]⟩,
    ⟨none, none, .store 32 (.tmp 4) (.tmp 13)⟩] [9, 10, 11, 12, 13])
  .ret)))⟩
theorem H.digest_Tagged : Has P F.digest_Tagged C.digest_Tagged := ⟨Tryd.f21, Tryd.func21, by kernel_rfl, by kernel_rfl⟩

/-- podium/podiumref34.Marks -/
noncomputable def C.podiumref34_Marks : MFunc := ⟨5, 1, [.tmp 2],
  (.seq (.region [
    ⟨(some 2), none, .val (.mv (.const (.bool false)))⟩] [])
  (.seq (.region [
    ⟨(some 3), none, .val (.mv (.tmp 0))⟩,
    ⟨(some 4), none, .call (.const (.func (.func F.podiumref34_within) [] [])) [(.tmp 3), (.const (.int 1000))]⟩,
    ⟨(some 2), none, .val (.mv (.tmp 4))⟩] [3, 4])
  .ret))⟩
theorem H.podiumref34_Marks : Has P F.podiumref34_Marks C.podiumref34_Marks := ⟨Tryd.f22, Tryd.func22, by kernel_rfl, by kernel_rfl⟩

/-- podium/shares.Deal -/
noncomputable def C.shares_Deal : MFunc := ⟨37, 3, [.tmp 6, .tmp 7],
  (.seq (.region [
    ⟨(some 6), none, .val (.mv (.const .nil))⟩,
    ⟨(some 7), none, .val (.mv (.const (.int 0)))⟩] [])
  (.seq (.seq (.region [
    ⟨(some 9), none, .val (.mv (.tmp 0))⟩,
    ⟨(some 10), none, .val (.bin .lss T.int (.tmp 9) (.const (.int 0)))⟩,
    ⟨(some 11), none, .val (.mv (.tmp 10))⟩,
    ⟨(some 12), (some (11, false)), .val (.mv (.tmp 0))⟩,
    ⟨(some 13), (some (11, false)), .val (.bin .geq T.int (.tmp 12) (.const (.int 1073741789)))⟩,
    ⟨(some 14), none, .val (.pick (.tmp 11) (.const (.bool true)) (.tmp 13))⟩,
    ⟨(some 15), none, .val (.mv (.tmp 14))⟩,
    ⟨(some 16), (some (15, false)), .val (.mv (.tmp 2))⟩,
    ⟨(some 17), (some (15, false)), .val (.bin .lss T.int (.tmp 16) (.const (.int 1)))⟩,
    ⟨(some 18), none, .val (.pick (.tmp 15) (.const (.bool true)) (.tmp 17))⟩,
    ⟨(some 19), none, .val (.mv (.tmp 18))⟩,
    ⟨(some 20), (some (19, false)), .val (.mv (.tmp 2))⟩,
    ⟨(some 21), (some (19, false)), .val (.bin .gtr T.int (.tmp 20) (.const (.int 24)))⟩,
    ⟨(some 22), none, .val (.pick (.tmp 19) (.const (.bool true)) (.tmp 21))⟩,
    ⟨(some 23), none, .val (.mv (.tmp 22))⟩,
    ⟨(some 24), (some (23, false)), .val (.mv (.tmp 1))⟩,
    ⟨(some 25), (some (23, false)), .val (.len (.tmp 24))⟩,
    ⟨(some 26), (some (23, false)), .val (.mv (.tmp 2))⟩,
    ⟨(some 27), (some (23, false)), .val (.bin .geq T.int (.tmp 25) (.tmp 26))⟩,
    ⟨(some 28), none, .val (.pick (.tmp 23) (.const (.bool true)) (.tmp 27))⟩] [9, 10, 11, 12, 13, 14, 15, 16, 17, 18, 19, 20, 21, 22, 23, 24, 25, 26, 27])
  (.cond (.tmp 28)
  (.seq (.region [
    ⟨(some 6), none, .val (.mv (.const .nil))⟩,
    ⟨(some 7), none, .val (.mv (.const (.int 1)))⟩] [])
  .ret)
  .skip))
  (.seq (.region [
    ⟨(some 29), none, .val (.mv (.tmp 0))⟩,
    ⟨(some 30), none, .val (.buildSlice T.int 1 [(.int 0)] [(0, 1, (.tmp 29))])⟩,
    ⟨(some 31), none, .val (.mv (.tmp 1))⟩,
    ⟨(some 32), none, .append T.int 8 1 (.tmp 30) (.tmp 31)⟩,
    ⟨(some 8), none, .val (.mv (.tmp 32))⟩] [29, 30, 31, 32])
  (.seq (.region [
    ⟨(some 33), none, .val (.mv (.tmp 8))⟩,
    ⟨(some 34), none, .val (.mv (.tmp 2))⟩,
    ⟨(some 35), none, .call (.const (.func (.func F.shares_values) [] [])) [(.tmp 33), (.tmp 34)]⟩,
    ⟨(some 36), none, .call (.const (.func (.func F.slices_Collect__apiShare) [] [])) [(.tmp 35)]⟩,
    ⟨(some 6), none, .val (.mv (.tmp 36))⟩,
    ⟨(some 7), none, .val (.mv (.const (.int 0)))⟩] [33, 34, 35, 36])
  .ret))))⟩
theorem H.shares_Deal : Has P F.shares_Deal C.shares_Deal := ⟨Tryd.f23, Tryd.func23, by kernel_rfl, by kernel_rfl⟩

/-- podium/podiumlaw34.through -/
noncomputable def C.podiumlaw34_through : MFunc := ⟨111, 1, [.tmp 2],
  (.seq (.region [
    ⟨(some 2), none, .val (.mv (.const .nil))⟩] [])
  (.seq (.region [
    ⟨(some 15), none, .val (.mv (.tmp 0))⟩,
    ⟨(some 16), none, .val (.len (.tmp 15))⟩,
    ⟨(some 17), none, .mkSlice T.int 8 1 [(.int 0)] (.tmp 16) (.tmp 16)⟩,
    ⟨(some 3), none, .val (.mv (.tmp 17))⟩] [15, 16, 17])
  (.seq (.seq (.region [
    ⟨(some 18), none, .val (.mv (.tmp 0))⟩,
    ⟨(some 19), none, .val (.len (.tmp 18))⟩,
    ⟨(some 20), none, .val (.mv (.const (.int 0)))⟩] [])
  (.block 0 (.loop (.seq (.region [
    ⟨(some 21), none, .val (.bin .lss T.int (.tmp 20) (.tmp 19))⟩] [])
  (.seq (.cond (.tmp 21)
  .skip
  (.exit 0))
  (.seq (.block 1 (.seq (.region [
    ⟨(some 22), none, .val (.mv (.tmp 20))⟩,
    ⟨(some 23), none, .val (.indexAddr 2 (.tmp 18) (.tmp 20))⟩,
    ⟨(some 24), none, .val (.load 2 true (.tmp 23))⟩,
    ⟨(some 5), none, .alloc T.apiPoint [(.int 0), (.int 0)]⟩,
    ⟨(some 4), none, .val (.mv (.tmp 22))⟩,
    ⟨none, none, .store 2 (.tmp 5) (.tmp 24)⟩] [22, 23, 24])
  (.seq (.region [
    ⟨(some 25), none, .val (.buildSlice T.int 1 [(.int 0)] [(0, 1, (.const (.int 1)))])⟩,
    ⟨(some 6), none, .val (.mv (.tmp 25))⟩] [25])
  (.seq (.region [
    ⟨(some 26), none, .val (.fieldAddr 1 (.tmp 5))⟩,
    ⟨(some 27), none, .val (.load 1 false (.tmp 26))⟩,
    ⟨(some 7), none, .val (.mv (.tmp 27))⟩] [26, 27])
  (.seq (.seq (.region [
    ⟨(some 28), none, .val (.mv (.tmp 0))⟩,
    ⟨(some 29), none, .val (.len (.tmp 28))⟩,
    ⟨(some 30), none, .val (.mv (.const (.int 0)))⟩] [])
  (.block 2 (.loop (.seq (.region [
    ⟨(some 31), none, .val (.bin .lss T.int (.tmp 30) (.tmp 29))⟩] [])
  (.seq (.cond (.tmp 31)
  .skip
  (.exit 2))
  (.seq (.block 3 (.seq (.region [
    ⟨(some 32), none, .val (.mv (.tmp 30))⟩,
    ⟨(some 33), none, .val (.indexAddr 2 (.tmp 28) (.tmp 30))⟩,
    ⟨(some 34), none, .val (.load 2 true (.tmp 33))⟩,
    ⟨(some 9), none, .alloc T.apiPoint [(.int 0), (.int 0)]⟩,
    ⟨(some 8), none, .val (.mv (.tmp 32))⟩,
    ⟨none, none, .store 2 (.tmp 9) (.tmp 34)⟩] [32, 33, 34])
  (.seq (.seq (.region [
    ⟨(some 35), none, .val (.mv (.tmp 8))⟩,
    ⟨(some 36), none, .val (.mv (.tmp 4))⟩,
    ⟨(some 37), none, .val (.bin .eql T.int (.tmp 35) (.tmp 36))⟩] [35, 36])
  (.cond (.tmp 37)
  (.exit 3)
  .skip))
  (.seq (.region [
    ⟨(some 38), none, .val (.mv (.tmp 6))⟩,
    ⟨(some 39), none, .val (.len (.tmp 38))⟩,
    ⟨(some 40), none, .val (.bin .add T.int (.tmp 39) (.const (.int 1)))⟩,
    ⟨(some 41), none, .mkSlice T.int 8 1 [(.int 0)] (.tmp 40) (.tmp 40)⟩,
    ⟨(some 10), none, .val (.mv (.tmp 41))⟩] [38, 39, 40, 41])
  (.seq (.seq (.region [
    ⟨(some 42), none, .val (.mv (.tmp 6))⟩,
    ⟨(some 43), none, .val (.len (.tmp 42))⟩,
    ⟨(some 44), none, .val (.mv (.const (.int 0)))⟩] [])
  (.block 4 (.loop (.seq (.region [
    ⟨(some 45), none, .val (.bin .lss T.int (.tmp 44) (.tmp 43))⟩] [])
  (.seq (.cond (.tmp 45)
  .skip
  (.exit 4))
  (.seq (.block 5 (.seq (.region [
    ⟨(some 46), none, .val (.mv (.tmp 44))⟩,
    ⟨(some 47), none, .val (.indexAddr 1 (.tmp 42) (.tmp 44))⟩,
    ⟨(some 48), none, .val (.load 1 false (.tmp 47))⟩,
    ⟨(some 11), none, .val (.mv (.tmp 46))⟩,
    ⟨(some 12), none, .val (.mv (.tmp 48))⟩] [46, 47, 48])
  (.seq (.region [
    ⟨(some 49), none, .val (.mv (.tmp 10))⟩,
    ⟨(some 50), none, .val (.mv (.tmp 11))⟩,
    ⟨(some 51), none, .val (.bin .add T.int (.tmp 50) (.const (.int 1)))⟩,
    ⟨(some 52), none, .val (.mv (.tmp 10))⟩,
    ⟨(some 53), none, .val (.mv (.tmp 11))⟩,
    ⟨(some 54), none, .val (.bin .add T.int (.tmp 53) (.const (.int 1)))⟩,
    ⟨(some 55), none, .val (.indexAddr 1 (.tmp 52) (.tmp 54))⟩,
    ⟨(some 56), none, .val (.load 1 false (.tmp 55))⟩,
    ⟨(some 57), none, .val (.mv (.tmp 12))⟩,
    ⟨(some 58), none, .val (.bin .add T.int (.tmp 56) (.tmp 57))⟩,
    ⟨(some 59), none, .val (.bin .rem T.int (.tmp 58) (.const (.int 1073741789)))⟩,
    ⟨(some 60), none, .val (.indexAddr 1 (.tmp 49) (.tmp 51))⟩,
    ⟨none, none, .store 1 (.tmp 60) (.tmp 59)⟩] [49, 50, 51, 52, 53, 54, 55, 56, 57, 58, 59, 60])
  (.draw false [
    (.early, ⟨(some 61), none, .val (.mv (.tmp 10))⟩),
    (.early, ⟨(some 62), none, .val (.mv (.tmp 11))⟩),
    (.early, ⟨(some 63), none, .val (.mv (.tmp 10))⟩),
    (.early, ⟨(some 64), none, .val (.mv (.tmp 11))⟩),
    (.early, ⟨(some 65), none, .val (.indexAddr 1 (.tmp 63) (.tmp 64))⟩),
    (.early, ⟨(some 66), none, .val (.load 1 false (.tmp 65))⟩),
    (.early, ⟨(some 67), none, .val (.mv (.tmp 12))⟩),
    (.early, ⟨(some 68), none, .val (.fieldAddr 0 (.tmp 9))⟩),
    (.early, ⟨(some 69), none, .val (.load 1 false (.tmp 68))⟩),
    (.early, ⟨(some 70), none, .val (.bin .sub T.int (.const (.int 1073741789)) (.tmp 69))⟩),
    (.early, ⟨(some 71), none, .val (.bin .mul T.int (.tmp 67) (.tmp 70))⟩),
    (.early, ⟨(some 72), none, .val (.bin .add T.int (.tmp 66) (.tmp 71))⟩),
    (.early, ⟨(some 73), none, .val (.bin .rem T.int (.tmp 72) (.const (.int 1073741789)))⟩),
    (.early, ⟨(some 74), none, .val (.indexAddr 1 (.tmp 61) (.tmp 62))⟩),
    (.last, ⟨none, none, .store 1 (.tmp 74) (.tmp 73)⟩)] [61, 62, 63, 64, 65, 66, 67, 68, 69, 70, 71, 72, 73, 74]))))
  (.region [
    ⟨(some 75), none, .val (.bin .add T.int (.tmp 44) (.const (.int 1)))⟩,
    ⟨(some 44), none, .val (.mv (.tmp 75))⟩] [75])))))))
  (.seq (.region [
    ⟨(some 76), none, .val (.mv (.tmp 10))⟩,
    ⟨(some 6), none, .val (.mv (.tmp 76))⟩] [76])
  (.region [
    ⟨(some 77), none, .val (.mv (.tmp 7))⟩,
    ⟨(some 78), none, .val (.fieldAddr 0 (.tmp 5))⟩,
    ⟨(some 79), none, .val (.load 1 false (.tmp 78))⟩,
    ⟨(some 80), none, .val (.fieldAddr 0 (.tmp 9))⟩,
    ⟨(some 81), none, .val (.load 1 false (.tmp 80))⟩,
    ⟨(some 82), none, .val (.bin .sub T.int (.tmp 79) (.tmp 81))⟩,
    ⟨(some 83), none, .val (.bin .add T.int (.tmp 82) (.const (.int 1073741789)))⟩,
    ⟨(some 84), none, .val (.bin .rem T.int (.tmp 83) (.const (.int 1073741789)))⟩,
    ⟨(some 85), none, .call (.const (.func (.func F.podiumlaw34_inverse) [] [])) [(.tmp 84)]⟩,
    ⟨(some 86), none, .val (.bin .mul T.int (.tmp 77) (.tmp 85))⟩,
    ⟨(some 87), none, .val (.bin .rem T.int (.tmp 86) (.const (.int 1073741789)))⟩,
    ⟨(some 7), none, .val (.mv (.tmp 87))⟩] [77, 78, 79, 80, 81, 82, 83, 84, 85, 86, 87])))))))
  (.region [
    ⟨(some 88), none, .val (.bin .add T.int (.tmp 30) (.const (.int 1)))⟩,
    ⟨(some 30), none, .val (.mv (.tmp 88))⟩] [88])))))))
  (.seq (.region [
    ⟨(some 89), none, .val (.mv (.tmp 6))⟩,
    ⟨(some 90), none, .val (.len (.tmp 89))⟩,
    ⟨(some 91), none, .val (.mv (.const (.int 0)))⟩] [])
  (.block 6 (.loop (.seq (.region [
    ⟨(some 92), none, .val (.bin .lss T.int (.tmp 91) (.tmp 90))⟩] [])
  (.seq (.cond (.tmp 92)
  .skip
  (.exit 6))
  (.seq (.block 7 (.seq (.region [
    ⟨(some 93), none, .val (.mv (.tmp 91))⟩,
    ⟨(some 94), none, .val (.indexAddr 1 (.tmp 89) (.tmp 91))⟩,
    ⟨(some 95), none, .val (.load 1 false (.tmp 94))⟩,
    ⟨(some 13), none, .val (.mv (.tmp 93))⟩,
    ⟨(some 14), none, .val (.mv (.tmp 95))⟩] [93, 94, 95])
  (.region [
    ⟨(some 96), none, .val (.mv (.tmp 3))⟩,
    ⟨(some 97), none, .val (.mv (.tmp 13))⟩,
    ⟨(some 98), none, .val (.mv (.tmp 3))⟩,
    ⟨(some 99), none, .val (.mv (.tmp 13))⟩,
    ⟨(some 100), none, .val (.indexAddr 1 (.tmp 98) (.tmp 99))⟩,
    ⟨(some 101), none, .val (.load 1 false (.tmp 100))⟩,
    ⟨(some 102), none, .val (.mv (.tmp 14))⟩,
    ⟨(some 103), none, .val (.mv (.tmp 7))⟩,
    ⟨(some 104), none, .val (.bin .mul T.int (.tmp 102) (.tmp 103))⟩,
    ⟨(some 105), none, .val (.bin .add T.int (.tmp 101) (.tmp 104))⟩,
    ⟨(some 106), none, .val (.bin .rem T.int (.tmp 105) (.const (.int 1073741789)))⟩,
    ⟨(some 107), none, .val (.indexAddr 1 (.tmp 96) (.tmp 97))⟩,
    ⟨none, none, .store 1 (.tmp 107) (.tmp 106)⟩] [96, 97, 98, 99, 100, 101, 102, 103, 104, 105, 106, 107])))
  (.region [
    ⟨(some 108), none, .val (.bin .add T.int (.tmp 91) (.const (.int 1)))⟩,
    ⟨(some 91), none, .val (.mv (.tmp 108))⟩] [108]))))))))))))
  (.region [
    ⟨(some 109), none, .val (.bin .add T.int (.tmp 20) (.const (.int 1)))⟩,
    ⟨(some 20), none, .val (.mv (.tmp 109))⟩] [109])))))))
  (.seq (.region [
    ⟨(some 110), none, .val (.mv (.tmp 3))⟩,
    ⟨(some 2), none, .val (.mv (.tmp 110))⟩] [110])
  .ret))))⟩
theorem H.podiumlaw34_through : Has P F.podiumlaw34_through C.podiumlaw34_through := ⟨Tryd.f24, Tryd.func24, by kernel_rfl, by kernel_rfl⟩

/-- podium/seal.caught -/
noncomputable def C.seal_caught : MRFunc := ⟨14, 1, 5, [],
  (.seq (.block 0 (.seq (.region [
    ⟨(some 7), none, .eqNil false .iface (.tmp 5)⟩] [])
  (.cond (.tmp 7)
  (.region [
    ⟨(some 2), none, .val (.mv (.tmp 5))⟩] [2])
  (.seq (.region [
    ⟨(some 8), none, .val (.assert T.apiErrno (.int 0) true (.tmp 5))⟩,
    ⟨(some 9), none, .val (.extract 1 (.tmp 8))⟩,
    ⟨(some 10), none, .val (.extract 0 (.tmp 8))⟩] [8])
  (.cond (.tmp 9)
  (.seq (.region [
    ⟨(some 3), none, .val (.mv (.tmp 10))⟩] [])
  (.region [
    ⟨(some 11), none, .val (.mv (.tmp 0))⟩,
    ⟨(some 12), none, .val (.mv (.tmp 3))⟩,
    ⟨(some 13), none, .val (.nilCheck (.tmp 11))⟩,
    ⟨none, none, .store 1 (.tmp 13) (.tmp 12)⟩] [11, 12, 13]))
  (.seq (.region [
    ⟨(some 4), none, .val (.mv (.tmp 5))⟩] [])
  (.region [
    ⟨(some 6), none, .val (.mv (.tmp 4))⟩,
    ⟨none, none, .panic (.tmp 6)⟩] [6])))))))
  .skip)⟩
theorem H.seal_caught : HasR P F.seal_caught C.seal_caught := ⟨Tryd.f25, Tryd.func25, by kernel_rfl, by kernel_rfl⟩

/-- podium/seal.placed -/
noncomputable def C.seal_placed : MFunc := ⟨16, 1, [],
  (.seq (.region [
    ⟨(some 1), none, .box T.apiSealed (.tmp 0)⟩] [])
  (.region [
    ⟨(some 2), none, .val (.fieldAddr 0 (.tmp 1))⟩,
    ⟨(some 3), none, .val (.load 1 false (.tmp 2))⟩,
    ⟨(some 4), none, .call (.const (.func (.func F.seal_within) [] [])) [(.tmp 3), (.const (.int 7))]⟩,
    ⟨(some 5), none, .val (.mv (.tmp 4))⟩,
    ⟨(some 6), (some (5, true)), .val (.fieldAddr 1 (.tmp 1))⟩,
    ⟨(some 7), (some (5, true)), .val (.load 1 false (.tmp 6))⟩,
    ⟨(some 8), (some (5, true)), .call (.const (.func (.func F.seal_within) [] [])) [(.tmp 7), (.const (.int 4095))]⟩,
    ⟨(some 9), none, .val (.pick (.tmp 5) (.tmp 8) (.const (.bool false)))⟩,
    ⟨(some 10), none, .val (.mv (.tmp 9))⟩,
    ⟨(some 11), (some (10, true)), .val (.fieldAddr 2 (.tmp 1))⟩,
    ⟨(some 12), (some (10, true)), .val (.load 1 false (.tmp 11))⟩,
    ⟨(some 13), (some (10, true)), .call (.const (.func (.func F.seal_within) [] [])) [(.tmp 12), (.const (.int 255))]⟩,
    ⟨(some 14), none, .val (.pick (.tmp 10) (.tmp 13) (.const (.bool false)))⟩,
    ⟨(some 15), none, .call (.const (.func (.func F.seal_need) [] [])) [(.tmp 14)]⟩] [2, 3, 4, 5, 6, 7, 8, 9, 10, 11, 12, 13, 14, 15]))⟩
theorem H.seal_placed : Has P F.seal_placed C.seal_placed := ⟨Tryd.f26, Tryd.func26, by kernel_rfl, by kernel_rfl⟩

/-- podium/seal.need -/
noncomputable def C.seal_need : MFunc := ⟨5, 1, [],
  (.seq (.region [
    ⟨(some 2), none, .val (.mv (.tmp 0))⟩,
    ⟨(some 3), none, .val (.un .not (.tmp 2))⟩] [2])
  (.cond (.tmp 3)
  (.region [
    ⟨(some 4), none, .val (.mkIface T.apiErrno (.const (.int 340)))⟩,
    ⟨none, none, .panic (.tmp 4)⟩] [4])
  .skip))⟩
theorem H.seal_need : Has P F.seal_need C.seal_need := ⟨Tryd.f27, Tryd.func27, by kernel_rfl, by kernel_rfl⟩

/-- podium/seal.all -/
noncomputable def C.seal_all : MFunc := ⟨17, 2, [.tmp 4],
  (.seq (.region [
    ⟨(some 3), none, .box T.int (.tmp 1)⟩,
    ⟨(some 4), none, .val (.mv (.const (.bool false)))⟩] [])
  (.seq (.region [
    ⟨(some 6), none, .val (.mkFunc (.func F.seal_all_1) [] [(.tmp 3)])⟩,
    ⟨(some 5), none, .val (.mv (.tmp 6))⟩] [6])
  (.seq (.region [
    ⟨(some 7), none, .val (.mv (.tmp 0))⟩,
    ⟨(some 8), none, .val (.len (.tmp 7))⟩,
    ⟨(some 9), none, .val (.bin .sub T.int (.tmp 8) (.const (.int 1)))⟩,
    ⟨(some 10), none, .call (.const (.func (.func F.seal_within) [] [])) [(.tmp 9), (.const (.int 63))]⟩,
    ⟨(some 11), none, .val (.mv (.tmp 10))⟩,
    ⟨(some 12), (some (11, true)), .val (.mv (.tmp 0))⟩,
    ⟨(some 13), (some (11, true)), .val (.mv (.tmp 5))⟩,
    ⟨(some 14), (some (11, true)), .call (.const (.func (.func F.slices_ContainsFunc__Lint_int) [] [])) [(.tmp 12), (.tmp 13)]⟩,
    ⟨(some 15), (some (11, true)), .val (.un .not (.tmp 14))⟩,
    ⟨(some 16), none, .val (.pick (.tmp 11) (.tmp 15) (.const (.bool false)))⟩,
    ⟨(some 4), none, .val (.mv (.tmp 16))⟩] [7, 8, 9, 10, 11, 12, 13, 14, 15, 16])
  .ret)))⟩
theorem H.seal_all : Has P F.seal_all C.seal_all := ⟨Tryd.f28, Tryd.func28, by kernel_rfl, by kernel_rfl⟩

/-- podium/seal.zip[int,int,int] -/
noncomputable def C.seal_zip__int_int_int : MFunc := ⟨28, 3, [.tmp 6],
  (.seq (.region [
    ⟨(some 6), none, .val (.mv (.const .nil))⟩] [])
  (.seq (.seq (.region [
    ⟨(some 9), none, .val (.mv (.tmp 0))⟩,
    ⟨(some 10), none, .val (.len (.tmp 9))⟩,
    ⟨(some 11), none, .val (.mv (.const (.int 0)))⟩] [])
  (.block 0 (.loop (.seq (.region [
    ⟨(some 12), none, .val (.bin .lss T.int (.tmp 11) (.tmp 10))⟩] [])
  (.seq (.cond (.tmp 12)
  .skip
  (.exit 0))
  (.seq (.block 1 (.seq (.region [
    ⟨(some 13), none, .val (.mv (.tmp 11))⟩,
    ⟨(some 14), none, .val (.indexAddr 1 (.tmp 9) (.tmp 11))⟩,
    ⟨(some 15), none, .val (.load 1 false (.tmp 14))⟩,
    ⟨(some 7), none, .val (.mv (.tmp 13))⟩,
    ⟨(some 8), none, .val (.mv (.tmp 15))⟩] [13, 14, 15])
  (.region [
    ⟨(some 16), none, .val (.mv (.tmp 6))⟩,
    ⟨(some 17), none, .val (.mv (.tmp 2))⟩,
    ⟨(some 18), none, .val (.mv (.tmp 8))⟩,
    ⟨(some 19), none, .val (.mv (.tmp 1))⟩,
    ⟨(some 20), none, .val (.mv (.tmp 7))⟩,
    ⟨(some 21), none, .val (.indexAddr 1 (.tmp 19) (.tmp 20))⟩,
    ⟨(some 22), none, .val (.load 1 false (.tmp 21))⟩,
    ⟨(some 23), none, .call (.tmp 17) [(.tmp 18), (.tmp 22)]⟩,
    ⟨(some 24), none, .val (.buildSlice T.int 1 [(.int 0)] [(0, 1, (.tmp 23))])⟩,
    ⟨(some 25), none, .append T.int 8 1 (.tmp 16) (.tmp 24)⟩,
    ⟨(some 6), none, .val (.mv (.tmp 25))⟩] [16, 17, 18, 19, 20, 21, 22, 23, 24, 25])))
  (.region [
    ⟨(some 26), none, .val (.bin .add T.int (.tmp 11) (.const (.int 1)))⟩,
    ⟨(some 11), none, .val (.mv (.tmp 26))⟩] [26])))))))
  (.seq (.region [
    ⟨(some 27), none, .val (.mv (.tmp 6))⟩,
    ⟨(some 6), none, .val (.mv (.tmp 27))⟩] [27])
  .ret)))⟩
theorem H.seal_zip__int_int_int : Has P F.seal_zip__int_int_int C.seal_zip__int_int_int := ⟨Tryd.f29, Tryd.func29, by kernel_rfl, by kernel_rfl⟩

/-- podium/seal.Make$1 -/
noncomputable def C.seal_Make_1 : MFunc := ⟨9, 2, [.tmp 4],
  (.seq (.region [
    ⟨(some 4), none, .val (.mv (.const (.int 0)))⟩] [])
  (.seq (.region [
    ⟨(some 5), none, .val (.mv (.tmp 0))⟩,
    ⟨(some 6), none, .val (.mv (.tmp 1))⟩,
    ⟨(some 7), none, .val (.bin .add T.int (.tmp 5) (.tmp 6))⟩,
    ⟨(some 8), none, .val (.bin .rem T.int (.tmp 7) (.const (.int 1073741789)))⟩,
    ⟨(some 4), none, .val (.mv (.tmp 8))⟩] [5, 6, 7, 8])
  .ret))⟩
theorem H.seal_Make_1 : Has P F.seal_Make_1 C.seal_Make_1 := ⟨Tryd.f30, Tryd.func30, by kernel_rfl, by kernel_rfl⟩

/-- podium/seal.commit -/
noncomputable def C.seal_commit : MFunc := ⟨35, 4, [.cell 8 32 true],
  (.seq (.region [
    ⟨(some 4), none, .box T.apiSealed (.tmp 0)⟩,
    ⟨(some 7), none, .box T.apiDigest (.tmp 3)⟩,
    ⟨(some 8), none, .alloc T.apiDigest ((.val (.int .u8 0)) :: (.val (.int .u8 0)) :: (.val (.int .u8 0)) :: (.val (.int .u8 0)) :: (.val (.int .u8 0)) :: (.val (.int .u8 0)) :: (.val (.int .u8 0)) :: (.val (.int .u8 0)) :: (.val (.int .u8 0)) :: (.val (.int .u8 0)) :: (.val (.int .u8 0)) :: (.val (.int .u8 0)) :: (.val (.int .u8 0)) :: (.val (.int .u8 0)) :: (.val (.int .u8 0)) :: (.val (.int .u8 0)) :: (.val (.int .u8 0)) :: (.val (.int .u8 0)) :: (.val (.int .u8 0)) :: (.val (.int .u8 0)) :: (.val (.int .u8 0)) :: (.val (.int .u8 0)) :: (.val (.int .u8 0)) :: (.val (.int .u8 0)) :: (.val (.int .u8 0)) :: (.val (.int .u8 0)) :: (.val (.int .u8 0)) :: (.val (.int .u8 0)) :: (.val (.int .u8 0)) :: (.val (.int .u8 0)) :: (.val (.int .u8 0)) :: (.val (.int .u8 0)) :: [])⟩] [])
  (.seq (.draw true [
    (.early, ⟨(some 12), none, .val (.fieldAddr 0 (.tmp 4))⟩),
    (.early, ⟨(some 13), none, .val (.load 1 false (.tmp 12))⟩),
    (.early, ⟨(some 14), none, .val (.mkIface T.int (.tmp 13))⟩),
    (.early, ⟨(some 15), none, .val (.fieldAddr 1 (.tmp 4))⟩),
    (.early, ⟨(some 16), none, .val (.load 1 false (.tmp 15))⟩),
    (.early, ⟨(some 17), none, .val (.mkIface T.int (.tmp 16))⟩),
    (.early, ⟨(some 18), none, .val (.fieldAddr 2 (.tmp 4))⟩),
    (.early, ⟨(some 19), none, .val (.load 1 false (.tmp 18))⟩),
    (.early, ⟨(some 20), none, .val (.mkIface T.int (.tmp 19))⟩),
    (.early, ⟨(some 21), none, .val (.mv (.tmp 1))⟩),
    (.early, ⟨(some 22), none, .val (.mkIface T.Lint (.tmp 21))⟩),
    (.early, ⟨(some 23), none, .val (.mv (.tmp 2))⟩),
    (.early, ⟨(some 24), none, .val (.mkIface T.Lint (.tmp 23))⟩),
    (.early, ⟨(some 25), none, .val (.sliceArr 32 1 (.tmp 7) none none none)⟩),
    (.early, ⟨(some 26), none, .val (.strOf (.tmp 25))⟩),
    (.early, ⟨(some 27), none, .val (.mkIface T.string (.tmp 26))⟩),
    (.early, ⟨(some 28), none, .val (.buildSlice T.interface 6 [(.val .nilIface), (.val .nilIface), (.val .nilIface), (.val .nilIface), (.val .nilIface), (.val .nilIface)] [(0, 1, (.tmp 14)), (1, 1, (.tmp 17)), (2, 1, (.tmp 20)), (3, 1, (.tmp 22)), (4, 1, (.tmp 24)), (5, 1, (.tmp 27))])⟩),
    (.hard, ⟨(some 29), none, .call (.const (.func (.func F.seal_values) [] [])) [(.tmp 28)]⟩),
    (.hard, ⟨(some 30), none, .call (.const (.func (.func F.codec_Encode) [] [])) [(.tmp 29)]⟩),
    (.late, ⟨(some 11), none, .val (.mv (.tmp 30))⟩),
    (.late, ⟨(some 31), none, .val (.extract 0 (.tmp 11))⟩),
    (.late, ⟨(some 32), none, .val (.extract 1 (.tmp 11))⟩),
    (.late, ⟨(some 9), none, .val (.mv (.tmp 31))⟩),
    (.late, ⟨(some 10), none, .val (.mv (.tmp 32))⟩)] [12, 13, 14, 15, 16, 17, 18, 19, 20, 21, 22, 23, 24, 25, 26, 27, 28, 29, 30, 11, 31, 32, 10])
  (.seq (.region [
    ⟨(some 33), none, .val (.mv (.tmp 9))⟩,
    ⟨(some 34), none, .call (.const (.func (.func F.digest_Tagged) [] [])) [(.const (.val (.string ⟨#[99, 97, 114, 100]⟩))), (.tmp 33)]⟩,
    ⟨none, none, .store 32 (.tmp 8) (.tmp 34)⟩] [33, 34])
  .ret)))⟩
theorem H.seal_commit : Has P F.seal_commit C.seal_commit := ⟨Tryd.f31, Tryd.func31, by kernel_rfl, by kernel_rfl⟩

/-- podium/podiumref34.place -/
noncomputable def C.podiumref34_place : MFunc := ⟨29, 3, [.tmp 6],
  (.seq (.region [
    ⟨(some 6), none, .val (.mv (.const (.bool false)))⟩] [])
  (.seq (.region [
    ⟨(some 7), none, .val (.mv (.tmp 0))⟩,
    ⟨(some 8), none, .val (.bin .geq T.int (.tmp 7) (.const (.int 0)))⟩,
    ⟨(some 9), none, .val (.mv (.tmp 8))⟩,
    ⟨(some 10), (some (9, true)), .val (.mv (.tmp 0))⟩,
    ⟨(some 11), (some (9, true)), .val (.bin .lss T.int (.tmp 10) (.const (.int 8)))⟩,
    ⟨(some 12), none, .val (.pick (.tmp 9) (.tmp 11) (.const (.bool false)))⟩,
    ⟨(some 13), none, .val (.mv (.tmp 12))⟩,
    ⟨(some 14), (some (13, true)), .val (.mv (.tmp 1))⟩,
    ⟨(some 15), (some (13, true)), .val (.bin .geq T.int (.tmp 14) (.const (.int 0)))⟩,
    ⟨(some 16), none, .val (.pick (.tmp 13) (.tmp 15) (.const (.bool false)))⟩,
    ⟨(some 17), none, .val (.mv (.tmp 16))⟩,
    ⟨(some 18), (some (17, true)), .val (.mv (.tmp 1))⟩,
    ⟨(some 19), (some (17, true)), .val (.bin .lss T.int (.tmp 18) (.const (.int 4096)))⟩,
    ⟨(some 20), none, .val (.pick (.tmp 17) (.tmp 19) (.const (.bool false)))⟩,
    ⟨(some 21), none, .val (.mv (.tmp 20))⟩,
    ⟨(some 22), (some (21, true)), .val (.mv (.tmp 2))⟩,
    ⟨(some 23), (some (21, true)), .val (.bin .geq T.int (.tmp 22) (.const (.int 0)))⟩,
    ⟨(some 24), none, .val (.pick (.tmp 21) (.tmp 23) (.const (.bool false)))⟩,
    ⟨(some 25), none, .val (.mv (.tmp 24))⟩,
    ⟨(some 26), (some (25, true)), .val (.mv (.tmp 2))⟩,
    ⟨(some 27), (some (25, true)), .val (.bin .lss T.int (.tmp 26) (.const (.int 256)))⟩,
    ⟨(some 28), none, .val (.pick (.tmp 25) (.tmp 27) (.const (.bool false)))⟩,
    ⟨(some 6), none, .val (.mv (.tmp 28))⟩] [7, 8, 9, 10, 11, 12, 13, 14, 15, 16, 17, 18, 19, 20, 21, 22, 23, 24, 25, 26, 27, 28])
  .ret))⟩
theorem H.podiumref34_place : Has P F.podiumref34_place C.podiumref34_place := ⟨Tryd.f32, Tryd.func32, by kernel_rfl, by kernel_rfl⟩

/-- podium/podiumref34.Keys -/
noncomputable def C.podiumref34_Keys : MFunc := ⟨5, 1, [.tmp 2],
  (.seq (.region [
    ⟨(some 2), none, .val (.mv (.const (.bool false)))⟩] [])
  (.seq (.region [
    ⟨(some 3), none, .val (.mv (.tmp 0))⟩,
    ⟨(some 4), none, .call (.const (.func (.func F.podiumref34_within) [] [])) [(.tmp 3), (.const (.int 1073741788))]⟩,
    ⟨(some 2), none, .val (.mv (.tmp 4))⟩] [3, 4])
  .ret))⟩
theorem H.podiumref34_Keys : Has P F.podiumref34_Keys C.podiumref34_Keys := ⟨Tryd.f33, Tryd.func33, by kernel_rfl, by kernel_rfl⟩

/-- podium/podiumref02.Tagged -/
noncomputable def C.podiumref02_Tagged : MFunc := ⟨15, 2, [.cell 4 32 true],
  (.seq (.region [
    ⟨(some 4), none, .alloc T.apiDigest ((.val (.int .u8 0)) :: (.val (.int .u8 0)) :: (.val (.int .u8 0)) :: (.val (.int .u8 0)) :: (.val (.int .u8 0)) :: (.val (.int .u8 0)) :: (.val (.int .u8 0)) :: (.val (.int .u8 0)) :: (.val (.int .u8 0)) :: (.val (.int .u8 0)) :: (.val (.int .u8 0)) :: (.val (.int .u8 0)) :: (.val (.int .u8 0)) :: (.val (.int .u8 0)) :: (.val (.int .u8 0)) :: (.val (.int .u8 0)) :: (.val (.int .u8 0)) :: (.val (.int .u8 0)) :: (.val (.int .u8 0)) :: (.val (.int .u8 0)) :: (.val (.int .u8 0)) :: (.val (.int .u8 0)) :: (.val (.int .u8 0)) :: (.val (.int .u8 0)) :: (.val (.int .u8 0)) :: (.val (.int .u8 0)) :: (.val (.int .u8 0)) :: (.val (.int .u8 0)) :: (.val (.int .u8 0)) :: (.val (.int .u8 0)) :: (.val (.int .u8 0)) :: (.val (.int .u8 0)) :: [])⟩] [])
  (.seq (.region [
    ⟨(some 6), none, .val (.mv (.tmp 0))⟩,
    ⟨(some 7), none, .bytes (.tmp 6)⟩,
    ⟨(some 8), none, .call (.const (.func (.func F.podiumref02_Sum) [] [])) [(.tmp 7)]⟩,
    ⟨(some 5), none, .alloc T.apiDigest ((.val (.int .u8 0)) :: (.val (.int .u8 0)) :: (.val (.int .u8 0)) :: (.val (.int .u8 0)) :: (.val (.int .u8 0)) :: (.val (.int .u8 0)) :: (.val (.int .u8 0)) :: (.val (.int .u8 0)) :: (.val (.int .u8 0)) :: (.val (.int .u8 0)) :: (.val (.int .u8 0)) :: (.val (.int .u8 0)) :: (.val (.int .u8 0)) :: (.val (.int .u8 0)) :: (.val (.int .u8 0)) :: (.val (.int .u8 0)) :: (.val (.int .u8 0)) :: (.val (.int .u8 0)) :: (.val (.int .u8 0)) :: (.val (.int .u8 0)) :: (.val (.int .u8 0)) :: (.val (.int .u8 0)) :: (.val (.int .u8 0)) :: (.val (.int .u8 0)) :: (.val (.int .u8 0)) :: (.val (.int .u8 0)) :: (.val (.int .u8 0)) :: (.val (.int .u8 0)) :: (.val (.int .u8 0)) :: (.val (.int .u8 0)) :: (.val (.int .u8 0)) :: (.val (.int .u8 0)) :: [])⟩,
    ⟨none, none, .store 32 (.tmp 5) (.tmp 8)⟩] [6, 7, 8])
  (.seq (.region [
    ⟨(some 9), none, .val (.buildSlice T.uint8 0 [] [])⟩,
    ⟨(some 10), none, .val (.sliceArr 32 1 (.tmp 5) none none none)⟩,
    ⟨(some 11), none, .append T.uint8 1 1 (.tmp 9) (.tmp 10)⟩,
    ⟨(some 12), none, .val (.mv (.tmp 1))⟩,
    ⟨(some 13), none, .append T.uint8 1 1 (.tmp 11) (.tmp 12)⟩,
    ⟨(some 14), none, .call (.const (.func (.func F.podiumref02_Sum) [] [])) [(.tmp 13)]⟩,
    ⟨none, none, .store 32 (.tmp 4) (.tmp 14)⟩] [9, 10, 11, 12, 13, 14])
  .ret)))⟩
theorem H.podiumref02_Tagged : Has P F.podiumref02_Tagged C.podiumref02_Tagged := ⟨Tryd.f34, Tryd.func34, by kernel_rfl, by kernel_rfl⟩

/-- podium/podiumref34.Text -/
noncomputable def C.podiumref34_Text : MFunc := ⟨102, 6, [.tmp 12],
  (.seq (.region [
    ⟨(some 11), none, .box T.apiDigest (.tmp 5)⟩,
    ⟨(some 12), none, .val (.mv (.const .nil))⟩] [])
  (.seq (.region [
    ⟨(some 23), none, .val (.buildSlice T.uint8 0 [] [])⟩,
    ⟨(some 13), none, .val (.mv (.tmp 23))⟩] [23])
  (.seq (.seq (.region [
    ⟨(some 14), none, .val (.mv (.const (.int 0)))⟩] [])
  (.block 0 (.loop (.seq (.seq (.region [
    ⟨(some 24), none, .val (.mv (.tmp 14))⟩,
    ⟨(some 25), none, .val (.bin .lss T.int (.tmp 24) (.const (.int 32)))⟩] [24])
  (.cond (.tmp 25)
  .skip
  (.exit 0)))
  (.seq (.block 1 (.region [
    ⟨(some 28), none, .val (.mv (.tmp 13))⟩,
    ⟨(some 29), none, .val (.mv (.tmp 14))⟩,
    ⟨(some 30), none, .val (.indexArr 32 1 (.tmp 11) (.tmp 29))⟩,
    ⟨(some 31), none, .val (.load 1 false (.tmp 30))⟩,
    ⟨(some 32), none, .val (.buildSlice T.uint8 1 [(.val (.int .u8 0))] [(0, 1, (.tmp 31))])⟩,
    ⟨(some 33), none, .append T.uint8 1 1 (.tmp 28) (.tmp 32)⟩,
    ⟨(some 13), none, .val (.mv (.tmp 33))⟩] [28, 29, 30, 31, 32, 33]))
  (.region [
    ⟨(some 26), none, .val (.mv (.tmp 14))⟩,
    ⟨(some 27), none, .val (.bin .add T.int (.tmp 26) (.const (.int 1)))⟩,
    ⟨(some 14), none, .val (.mv (.tmp 27))⟩] [26, 27]))))))
  (.seq (.region [
    ⟨(some 34), none, .val (.build [(.int 0), (.int 0), (.val (.string ⟨#[]⟩)), .nil] [(0, 1, (.const (.int 1)))])⟩,
    ⟨(some 15), none, .alloc T.apiValue [(.int 0), (.int 0), (.val (.string ⟨#[]⟩)), .nil]⟩,
    ⟨none, none, .store 4 (.tmp 15) (.tmp 34)⟩] [34])
  (.seq (.region [
    ⟨(some 35), none, .val (.load 4 true (.tmp 15))⟩,
    ⟨(some 36), none, .val (.load 4 true (.tmp 15))⟩,
    ⟨(some 37), none, .val (.load 4 true (.tmp 15))⟩,
    ⟨(some 38), none, .val (.buildSlice T.apiValue 3 [(.int 0), (.int 0), (.val (.string ⟨#[]⟩)), .nil, (.int 0), (.int 0), (.val (.string ⟨#[]⟩)), .nil, (.int 0), (.int 0), (.val (.string ⟨#[]⟩)), .nil] [(0, 4, (.tmp 35)), (4, 4, (.tmp 36)), (8, 4, (.tmp 37))])⟩,
    ⟨(some 16), none, .val (.mv (.tmp 38))⟩] [35, 36, 37, 38])
  (.seq (.region [
    ⟨(some 39), none, .val (.mv (.tmp 16))⟩,
    ⟨(some 40), none, .val (.mv (.tmp 0))⟩,
    ⟨(some 41), none, .val (.indexAddr 4 (.tmp 39) (.const (.int 0)))⟩,
    ⟨(some 42), none, .val (.fieldAddr 1 (.tmp 41))⟩,
    ⟨none, none, .store 1 (.tmp 42) (.tmp 40)⟩] [39, 40, 41, 42])
  (.seq (.region [
    ⟨(some 43), none, .val (.mv (.tmp 16))⟩,
    ⟨(some 44), none, .val (.mv (.tmp 1))⟩,
    ⟨(some 45), none, .val (.indexAddr 4 (.tmp 43) (.const (.int 1)))⟩,
    ⟨(some 46), none, .val (.fieldAddr 1 (.tmp 45))⟩,
    ⟨none, none, .store 1 (.tmp 46) (.tmp 44)⟩] [43, 44, 45, 46])
  (.seq (.region [
    ⟨(some 47), none, .val (.mv (.tmp 16))⟩,
    ⟨(some 48), none, .val (.mv (.tmp 2))⟩,
    ⟨(some 49), none, .val (.indexAddr 4 (.tmp 47) (.const (.int 2)))⟩,
    ⟨(some 50), none, .val (.fieldAddr 1 (.tmp 49))⟩,
    ⟨none, none, .store 1 (.tmp 50) (.tmp 48)⟩] [47, 48, 49, 50])
  (.seq (.region [
    ⟨(some 51), none, .val (.build [(.int 0), (.int 0), (.val (.string ⟨#[]⟩)), .nil] [(0, 1, (.const (.int 3)))])⟩,
    ⟨(some 17), none, .alloc T.apiValue [(.int 0), (.int 0), (.val (.string ⟨#[]⟩)), .nil]⟩,
    ⟨none, none, .store 4 (.tmp 17) (.tmp 51)⟩] [51])
  (.seq (.seq (.region [
    ⟨(some 18), none, .val (.mv (.const (.int 0)))⟩] [])
  (.block 2 (.loop (.seq (.seq (.region [
    ⟨(some 52), none, .val (.mv (.tmp 18))⟩,
    ⟨(some 53), none, .val (.mv (.tmp 3))⟩,
    ⟨(some 54), none, .val (.len (.tmp 53))⟩,
    ⟨(some 55), none, .val (.bin .lss T.int (.tmp 52) (.tmp 54))⟩] [52, 53, 54])
  (.cond (.tmp 55)
  .skip
  (.exit 2)))
  (.seq (.block 3 (.seq (.region [
    ⟨(some 58), none, .val (.mv (.tmp 3))⟩,
    ⟨(some 59), none, .val (.mv (.tmp 18))⟩,
    ⟨(some 60), none, .val (.indexAddr 1 (.tmp 58) (.tmp 59))⟩,
    ⟨(some 61), none, .val (.load 1 false (.tmp 60))⟩,
    ⟨(some 62), none, .val (.fieldAddr 1 (.tmp 15))⟩,
    ⟨none, none, .store 1 (.tmp 62) (.tmp 61)⟩] [58, 59, 60, 61, 62])
  (.region [
    ⟨(some 63), none, .val (.fieldAddr 3 (.tmp 17))⟩,
    ⟨(some 64), none, .val (.load 1 false (.tmp 63))⟩,
    ⟨(some 65), none, .val (.load 4 true (.tmp 15))⟩,
    ⟨(some 66), none, .val (.buildSlice T.apiValue 1 [(.int 0), (.int 0), (.val (.string ⟨#[]⟩)), .nil] [(0, 4, (.tmp 65))])⟩,
    ⟨(some 67), none, .append T.apiValue 56 4 (.tmp 64) (.tmp 66)⟩,
    ⟨(some 68), none, .val (.fieldAddr 3 (.tmp 17))⟩,
    ⟨none, none, .store 1 (.tmp 68) (.tmp 67)⟩] [63, 64, 65, 66, 67, 68])))
  (.region [
    ⟨(some 56), none, .val (.mv (.tmp 18))⟩,
    ⟨(some 57), none, .val (.bin .add T.int (.tmp 56) (.const (.int 1)))⟩,
    ⟨(some 18), none, .val (.mv (.tmp 57))⟩] [56, 57]))))))
  (.seq (.region [
    ⟨(some 69), none, .val (.build [(.int 0), (.int 0), (.val (.string ⟨#[]⟩)), .nil] [(0, 1, (.const (.int 3)))])⟩,
    ⟨(some 19), none, .alloc T.apiValue [(.int 0), (.int 0), (.val (.string ⟨#[]⟩)), .nil]⟩,
    ⟨none, none, .store 4 (.tmp 19) (.tmp 69)⟩] [69])
  (.seq (.seq (.region [
    ⟨(some 20), none, .val (.mv (.const (.int 0)))⟩] [])
  (.block 4 (.loop (.seq (.seq (.region [
    ⟨(some 70), none, .val (.mv (.tmp 20))⟩,
    ⟨(some 71), none, .val (.mv (.tmp 4))⟩,
    ⟨(some 72), none, .val (.len (.tmp 71))⟩,
    ⟨(some 73), none, .val (.bin .lss T.int (.tmp 70) (.tmp 72))⟩] [70, 71, 72])
  (.cond (.tmp 73)
  .skip
  (.exit 4)))
  (.seq (.block 5 (.seq (.region [
    ⟨(some 76), none, .val (.mv (.tmp 4))⟩,
    ⟨(some 77), none, .val (.mv (.tmp 20))⟩,
    ⟨(some 78), none, .val (.indexAddr 1 (.tmp 76) (.tmp 77))⟩,
    ⟨(some 79), none, .val (.load 1 false (.tmp 78))⟩,
    ⟨(some 80), none, .val (.fieldAddr 1 (.tmp 15))⟩,
    ⟨none, none, .store 1 (.tmp 80) (.tmp 79)⟩] [76, 77, 78, 79, 80])
  (.region [
    ⟨(some 81), none, .val (.fieldAddr 3 (.tmp 19))⟩,
    ⟨(some 82), none, .val (.load 1 false (.tmp 81))⟩,
    ⟨(some 83), none, .val (.load 4 true (.tmp 15))⟩,
    ⟨(some 84), none, .val (.buildSlice T.apiValue 1 [(.int 0), (.int 0), (.val (.string ⟨#[]⟩)), .nil] [(0, 4, (.tmp 83))])⟩,
    ⟨(some 85), none, .append T.apiValue 56 4 (.tmp 82) (.tmp 84)⟩,
    ⟨(some 86), none, .val (.fieldAddr 3 (.tmp 19))⟩,
    ⟨none, none, .store 1 (.tmp 86) (.tmp 85)⟩] [81, 82, 83, 84, 85, 86])))
  (.region [
    ⟨(some 74), none, .val (.mv (.tmp 20))⟩,
    ⟨(some 75), none, .val (.bin .add T.int (.tmp 74) (.const (.int 1)))⟩,
    ⟨(some 20), none, .val (.mv (.tmp 75))⟩] [74, 75]))))))
  (.seq (.region [
    ⟨(some 87), none, .val (.mv (.tmp 16))⟩,
    ⟨(some 88), none, .val (.load 4 true (.tmp 17))⟩,
    ⟨(some 89), none, .val (.load 4 true (.tmp 19))⟩,
    ⟨(some 90), none, .val (.mv (.tmp 13))⟩,
    ⟨(some 91), none, .val (.strOf (.tmp 90))⟩,
    ⟨(some 92), none, .val (.build [(.int 0), (.int 0), (.val (.string ⟨#[]⟩)), .nil] [(0, 1, (.const (.int 2))), (2, 1, (.tmp 91))])⟩,
    ⟨(some 93), none, .val (.buildSlice T.apiValue 3 [(.int 0), (.int 0), (.val (.string ⟨#[]⟩)), .nil, (.int 0), (.int 0), (.val (.string ⟨#[]⟩)), .nil, (.int 0), (.int 0), (.val (.string ⟨#[]⟩)), .nil] [(0, 4, (.tmp 88)), (4, 4, (.tmp 89)), (8, 4, (.tmp 92))])⟩,
    ⟨(some 94), none, .append T.apiValue 56 4 (.tmp 87) (.tmp 93)⟩,
    ⟨(some 16), none, .val (.mv (.tmp 94))⟩] [87, 88, 89, 90, 91, 92, 93, 94])
  (.seq (.region [
    ⟨(some 96), none, .val (.mv (.tmp 16))⟩,
    ⟨(some 97), none, .val (.build [(.int 0), (.int 0), (.val (.string ⟨#[]⟩)), .nil] [(0, 1, (.const (.int 3))), (3, 1, (.tmp 96))])⟩,
    ⟨(some 98), none, .call (.const (.func (.func F.podiumref01_Encode) [] [])) [(.tmp 97)]⟩,
    ⟨(some 95), none, .val (.mv (.tmp 98))⟩,
    ⟨(some 99), none, .val (.extract 0 (.tmp 95))⟩,
    ⟨(some 100), none, .val (.extract 1 (.tmp 95))⟩,
    ⟨(some 21), none, .val (.mv (.tmp 99))⟩,
    ⟨(some 22), none, .val (.mv (.tmp 100))⟩] [96, 97, 98, 95, 99, 100, 22])
  (.seq (.region [
    ⟨(some 101), none, .val (.mv (.tmp 21))⟩,
    ⟨(some 12), none, .val (.mv (.tmp 101))⟩] [101])
  .ret)))))))))))))))⟩
theorem H.podiumref34_Text : Has P F.podiumref34_Text C.podiumref34_Text := ⟨Tryd.f35, Tryd.func35, by kernel_rfl, by kernel_rfl⟩

/-- podium/seal.bare -/
noncomputable def C.seal_bare : MFunc := ⟨25, 2, [.tmp 4],
  (.seq (.region [
    ⟨(some 2), none, .box T.apiSealed (.tmp 0)⟩,
    ⟨(some 4), none, .val (.mv (.const .nil))⟩] [])
  (.seq (.region [
    ⟨(some 5), none, .val (.load 36 true (.tmp 2))⟩,
    ⟨(some 6), none, .call (.const (.func (.func F.seal_Check) [] [])) [(.tmp 5)]⟩,
    ⟨(some 7), none, .val (.bin .eql T.apiErrno (.tmp 6) (.const (.int 0)))⟩,
    ⟨(some 8), none, .val (.mv (.tmp 7))⟩,
    ⟨(some 9), (some (8, true)), .val (.mv (.tmp 1))⟩,
    ⟨(some 10), (some (8, true)), .call (.const (.func (.func F.seal_all) [] [])) [(.tmp 9), (.const (.int 1073741788))]⟩,
    ⟨(some 11), none, .val (.pick (.tmp 8) (.tmp 10) (.const (.bool false)))⟩,
    ⟨(some 12), none, .val (.mv (.tmp 11))⟩,
    ⟨(some 13), (some (12, true)), .val (.mv (.tmp 1))⟩,
    ⟨(some 14), (some (12, true)), .val (.len (.tmp 13))⟩,
    ⟨(some 15), (some (12, true)), .val (.fieldAddr 3 (.tmp 2))⟩,
    ⟨(some 16), (some (12, true)), .val (.load 1 false (.tmp 15))⟩,
    ⟨(some 17), (some (12, true)), .val (.len (.tmp 16))⟩,
    ⟨(some 18), (some (12, true)), .val (.bin .eql T.int (.tmp 14) (.tmp 17))⟩,
    ⟨(some 19), none, .val (.pick (.tmp 12) (.tmp 18) (.const (.bool false)))⟩,
    ⟨(some 20), none, .call (.const (.func (.func F.seal_need) [] [])) [(.tmp 19)]⟩] [5, 6, 7, 8, 9, 10, 11, 12, 13, 14, 15, 16, 17, 18, 19, 20])
  (.seq (.region [
    ⟨(some 21), none, .val (.fieldAddr 3 (.tmp 2))⟩,
    ⟨(some 22), none, .val (.load 1 false (.tmp 21))⟩,
    ⟨(some 23), none, .val (.mv (.tmp 1))⟩,
    ⟨(some 24), none, .call (.const (.func (.func F.seal_zip__int_int_int) [] [])) [(.tmp 22), (.tmp 23), (.const (.func (.func F.seal_bare_1) [] []))]⟩,
    ⟨(some 4), none, .val (.mv (.tmp 24))⟩] [21, 22, 23, 24])
  .ret)))⟩
theorem H.seal_bare : Has P F.seal_bare C.seal_bare := ⟨Tryd.f36, Tryd.func36, by kernel_rfl, by kernel_rfl⟩

/-- podium/podiumref34.bare -/
noncomputable def C.podiumref34_bare : MFunc := ⟨46, 2, [.tmp 4, .tmp 5],
  (.seq (.region [
    ⟨(some 2), none, .box T.apiSealed (.tmp 0)⟩,
    ⟨(some 4), none, .val (.mv (.const .nil))⟩,
    ⟨(some 5), none, .val (.mv (.const (.int 0)))⟩] [])
  (.seq (.seq (.region [
    ⟨(some 8), none, .val (.load 36 true (.tmp 2))⟩,
    ⟨(some 9), none, .call (.const (.func (.func F.podiumref34_Check) [] [])) [(.tmp 8)]⟩,
    ⟨(some 10), none, .val (.bin .neq T.apiErrno (.tmp 9) (.const (.int 0)))⟩,
    ⟨(some 11), none, .val (.mv (.tmp 10))⟩,
    ⟨(some 12), (some (11, false)), .val (.mv (.tmp 1))⟩,
    ⟨(some 13), (some (11, false)), .call (.const (.func (.func F.podiumref34_Keys) [] [])) [(.tmp 12)]⟩,
    ⟨(some 14), (some (11, false)), .val (.un .not (.tmp 13))⟩,
    ⟨(some 15), none, .val (.pick (.tmp 11) (.const (.bool true)) (.tmp 14))⟩,
    ⟨(some 16), none, .val (.mv (.tmp 15))⟩,
    ⟨(some 17), (some (16, false)), .val (.mv (.tmp 1))⟩,
    ⟨(some 18), (some (16, false)), .val (.len (.tmp 17))⟩,
    ⟨(some 19), (some (16, false)), .val (.fieldAddr 3 (.tmp 2))⟩,
    ⟨(some 20), (some (16, false)), .val (.load 1 false (.tmp 19))⟩,
    ⟨(some 21), (some (16, false)), .val (.len (.tmp 20))⟩,
    ⟨(some 22), (some (16, false)), .val (.bin .neq T.int (.tmp 18) (.tmp 21))⟩,
    ⟨(some 23), none, .val (.pick (.tmp 16) (.const (.bool true)) (.tmp 22))⟩] [8, 9, 10, 11, 12, 13, 14, 15, 16, 17, 18, 19, 20, 21, 22])
  (.cond (.tmp 23)
  (.seq (.region [
    ⟨(some 4), none, .val (.mv (.const .nil))⟩,
    ⟨(some 5), none, .val (.mv (.const (.int 340)))⟩] [])
  .ret)
  .skip))
  (.seq (.region [
    ⟨(some 6), none, .val (.mv (.const .nil))⟩] [])
  (.seq (.seq (.region [
    ⟨(some 7), none, .val (.mv (.const (.int 0)))⟩] [])
  (.block 0 (.loop (.seq (.seq (.region [
    ⟨(some 24), none, .val (.mv (.tmp 7))⟩,
    ⟨(some 25), none, .val (.mv (.tmp 1))⟩,
    ⟨(some 26), none, .val (.len (.tmp 25))⟩,
    ⟨(some 27), none, .val (.bin .lss T.int (.tmp 24) (.tmp 26))⟩] [24, 25, 26])
  (.cond (.tmp 27)
  .skip
  (.exit 0)))
  (.seq (.block 1 (.draw true [
    (.early, ⟨(some 30), none, .val (.mv (.tmp 6))⟩),
    (.early, ⟨(some 31), none, .val (.fieldAddr 3 (.tmp 2))⟩),
    (.early, ⟨(some 32), none, .val (.load 1 false (.tmp 31))⟩),
    (.early, ⟨(some 33), none, .val (.mv (.tmp 7))⟩),
    (.early, ⟨(some 34), none, .val (.indexAddr 1 (.tmp 32) (.tmp 33))⟩),
    (.early, ⟨(some 35), none, .val (.load 1 false (.tmp 34))⟩),
    (.early, ⟨(some 36), none, .val (.mv (.tmp 1))⟩),
    (.early, ⟨(some 37), none, .val (.mv (.tmp 7))⟩),
    (.early, ⟨(some 38), none, .val (.indexAddr 1 (.tmp 36) (.tmp 37))⟩),
    (.early, ⟨(some 39), none, .val (.load 1 false (.tmp 38))⟩),
    (.early, ⟨(some 40), none, .val (.bin .sub T.int (.tmp 35) (.tmp 39))⟩),
    (.early, ⟨(some 41), none, .val (.bin .add T.int (.tmp 40) (.const (.int 1073741789)))⟩),
    (.early, ⟨(some 42), none, .val (.bin .rem T.int (.tmp 41) (.const (.int 1073741789)))⟩),
    (.early, ⟨(some 43), none, .val (.buildSlice T.int 1 [(.int 0)] [(0, 1, (.tmp 42))])⟩),
    (.hard, ⟨(some 44), none, .append T.int 8 1 (.tmp 30) (.tmp 43)⟩),
    (.late, ⟨(some 6), none, .val (.mv (.tmp 44))⟩)] [30, 31, 32, 33, 34, 35, 36, 37, 38, 39, 40, 41, 42, 43, 44]))
  (.region [
    ⟨(some 28), none, .val (.mv (.tmp 7))⟩,
    ⟨(some 29), none, .val (.bin .add T.int (.tmp 28) (.const (.int 1)))⟩,
    ⟨(some 7), none, .val (.mv (.tmp 29))⟩] [28, 29]))))))
  (.seq (.region [
    ⟨(some 45), none, .val (.mv (.tmp 6))⟩,
    ⟨(some 4), none, .val (.mv (.tmp 45))⟩,
    ⟨(some 5), none, .val (.mv (.const (.int 0)))⟩] [45])
  .ret)))))⟩
theorem H.podiumref34_bare : Has P F.podiumref34_bare C.podiumref34_bare := ⟨Tryd.f37, Tryd.func37, by kernel_rfl, by kernel_rfl⟩

/-- podium/codec.Encode -/
noncomputable def C.codec_Encode : MFunc := ⟨19, 1, [.tmp 2, .tmp 3],
  (.seq (.region [
    ⟨(some 1), none, .box T.apiValue (.tmp 0)⟩,
    ⟨(some 2), none, .val (.mv (.const .nil))⟩,
    ⟨(some 3), none, .val (.mv (.const (.int 0)))⟩] [])
  (.seq (.seq (.region [
    ⟨(some 5), none, .val (.load 4 true (.tmp 1))⟩,
    ⟨(some 6), none, .call (.const (.func (.func F.codec_Check) [] [])) [(.tmp 5)]⟩,
    ⟨(some 4), none, .val (.mv (.tmp 6))⟩] [5, 6])
  (.seq (.region [
    ⟨(some 7), none, .val (.mv (.tmp 4))⟩,
    ⟨(some 8), none, .val (.bin .neq T.apiErrno (.tmp 7) (.const (.int 0)))⟩] [7])
  (.cond (.tmp 8)
  (.seq (.region [
    ⟨(some 9), none, .val (.mv (.tmp 4))⟩,
    ⟨(some 2), none, .val (.mv (.const .nil))⟩,
    ⟨(some 3), none, .val (.mv (.tmp 9))⟩] [9])
  .ret)
  .skip)))
  (.seq (.draw true [
    (.late, ⟨(some 11), none, .val (.fieldAddr 0 (.tmp 1))⟩),
    (.late, ⟨(some 12), none, .val (.load 1 false (.tmp 11))⟩),
    (.late, ⟨(some 17), none, .val (.load 4 true (.tmp 1))⟩),
    (.hard, ⟨(some 10), none, .call (.const (.func (.func F.codec_newWriter) [] [])) []⟩),
    (.late, ⟨(some 13), none, .val (.nilCheck (.tmp 10))⟩),
    (.late, ⟨(some 14), none, .val (.indexArr 4 1 (.tmp 13) (.tmp 12))⟩),
    (.late, ⟨(some 15), none, .val (.fieldAddr 0 (.tmp 14))⟩),
    (.late, ⟨(some 16), none, .val (.load 1 false (.tmp 15))⟩),
    (.hard, ⟨(some 18), none, .call (.tmp 16) [(.const .nil), (.tmp 17)]⟩),
    (.late, ⟨(some 2), none, .val (.mv (.tmp 18))⟩),
    (.late, ⟨(some 3), none, .val (.mv (.const (.int 0)))⟩)] [10, 11, 12, 13, 14, 15, 16, 17, 18])
  .ret)))⟩
theorem H.codec_Encode : Has P F.codec_Encode C.codec_Encode := ⟨Tryd.f39, Tryd.func39, by kernel_rfl, by kernel_rfl⟩

/-- podium/digest.Sum -/
noncomputable def C.digest_Sum : MFunc := ⟨69, 1, [.cell 2 32 true],
  (.seq (.region [
    ⟨(some 2), none, .alloc T.apiDigest ((.val (.int .u8 0)) :: (.val (.int .u8 0)) :: (.val (.int .u8 0)) :: (.val (.int .u8 0)) :: (.val (.int .u8 0)) :: (.val (.int .u8 0)) :: (.val (.int .u8 0)) :: (.val (.int .u8 0)) :: (.val (.int .u8 0)) :: (.val (.int .u8 0)) :: (.val (.int .u8 0)) :: (.val (.int .u8 0)) :: (.val (.int .u8 0)) :: (.val (.int .u8 0)) :: (.val (.int .u8 0)) :: (.val (.int .u8 0)) :: (.val (.int .u8 0)) :: (.val (.int .u8 0)) :: (.val (.int .u8 0)) :: (.val (.int .u8 0)) :: (.val (.int .u8 0)) :: (.val (.int .u8 0)) :: (.val (.int .u8 0)) :: (.val (.int .u8 0)) :: (.val (.int .u8 0)) :: (.val (.int .u8 0)) :: (.val (.int .u8 0)) :: (.val (.int .u8 0)) :: (.val (.int .u8 0)) :: (.val (.int .u8 0)) :: (.val (.int .u8 0)) :: (.val (.int .u8 0)) :: [])⟩] [])
  (.seq (.region [
    ⟨(some 9), none, .val (.load 8 true (.const (.val (.pointer (some ⟨0, 0, none⟩)))))⟩,
    ⟨(some 3), none, .alloc T.digeststate [(.val (.int .u32 0)), (.val (.int .u32 0)), (.val (.int .u32 0)), (.val (.int .u32 0)), (.val (.int .u32 0)), (.val (.int .u32 0)), (.val (.int .u32 0)), (.val (.int .u32 0))]⟩,
    ⟨none, none, .store 8 (.tmp 3) (.tmp 9)⟩] [9])
  (.seq (.region [
    ⟨(some 10), none, .val (.mkFunc (.func F.Pdigest_state_absorb) [(.tmp 3)] [])⟩,
    ⟨(some 4), none, .val (.mv (.tmp 10))⟩] [10])
  (.seq (.region [
    ⟨(some 11), none, .val (.mv (.tmp 0))⟩,
    ⟨(some 5), none, .val (.mv (.tmp 11))⟩] [11])
  (.seq (.block 0 (.loop (.seq (.seq (.region [
    ⟨(some 12), none, .val (.mv (.tmp 5))⟩,
    ⟨(some 13), none, .val (.len (.tmp 12))⟩,
    ⟨(some 14), none, .val (.bin .geq T.int (.tmp 13) (.const (.int 64)))⟩] [12, 13])
  (.cond (.tmp 14)
  .skip
  (.exit 0)))
  (.seq (.block 1 (.region [
    ⟨(some 17), none, .val (.mv (.tmp 4))⟩,
    ⟨(some 18), none, .val (.mv (.tmp 5))⟩,
    ⟨(some 19), none, .val (.slice 1 (.tmp 18) none (some (.const (.int 64))) none)⟩,
    ⟨(some 20), none, .call (.tmp 17) [(.tmp 19)]⟩] [17, 18, 19, 20]))
  (.region [
    ⟨(some 15), none, .val (.mv (.tmp 5))⟩,
    ⟨(some 16), none, .val (.slice 1 (.tmp 15) (some (.const (.int 64))) none none)⟩,
    ⟨(some 5), none, .val (.mv (.tmp 16))⟩] [15, 16])))))
  (.seq (.region [
    ⟨(some 21), none, .mkSlice T.uint8 1 1 [(.val (.int .u8 0))] (.const (.int 64)) (.const (.int 128))⟩,
    ⟨(some 6), none, .val (.mv (.tmp 21))⟩] [21])
  (.seq (.region [
    ⟨(some 22), none, .val (.mv (.tmp 6))⟩,
    ⟨(some 23), none, .val (.mv (.tmp 5))⟩,
    ⟨(some 24), none, .copy 1 (.tmp 22) (.tmp 23)⟩] [22, 23, 24])
  (.seq (.region [
    ⟨(some 25), none, .val (.mv (.tmp 6))⟩,
    ⟨(some 26), none, .val (.mv (.tmp 5))⟩,
    ⟨(some 27), none, .val (.len (.tmp 26))⟩,
    ⟨(some 28), none, .val (.indexAddr 1 (.tmp 25) (.tmp 27))⟩,
    ⟨none, none, .store 1 (.tmp 28) (.const (.val (.int .u8 128)))⟩] [25, 26, 27, 28])
  (.seq (.seq (.region [
    ⟨(some 29), none, .val (.mv (.tmp 5))⟩,
    ⟨(some 30), none, .val (.len (.tmp 29))⟩,
    ⟨(some 31), none, .val (.bin .gtr T.int (.tmp 30) (.const (.int 55)))⟩] [29, 30])
  (.cond (.tmp 31)
  (.region [
    ⟨(some 32), none, .val (.mv (.tmp 6))⟩,
    ⟨(some 33), none, .val (.slice 1 (.tmp 32) none (some (.const (.int 128))) none)⟩,
    ⟨(some 6), none, .val (.mv (.tmp 33))⟩] [32, 33])
  .skip))
  (.seq (.region [
    ⟨(some 34), none, .val (.mv (.tmp 6))⟩,
    ⟨(some 35), none, .val (.mv (.tmp 6))⟩,
    ⟨(some 36), none, .val (.len (.tmp 35))⟩,
    ⟨(some 37), none, .val (.bin .sub T.int (.tmp 36) (.const (.int 8)))⟩,
    ⟨(some 38), none, .val (.slice 1 (.tmp 34) (some (.tmp 37)) none none)⟩,
    ⟨(some 39), none, .val (.mv (.tmp 0))⟩,
    ⟨(some 40), none, .val (.len (.tmp 39))⟩,
    ⟨(some 41), none, .val (.toInt .u64 (.tmp 40))⟩,
    ⟨(some 42), none, .val (.bin .mul T.uint64 (.tmp 41) (.const (.val (.int .u64 8))))⟩,
    ⟨(some 43), none, .call (.const (.func (.func F.digest_put) [] [])) [(.tmp 38), (.tmp 42)]⟩] [34, 35, 36, 37, 38, 39, 40, 41, 42, 43])
  (.seq (.block 2 (.loop (.seq (.seq (.region [
    ⟨(some 44), none, .val (.mv (.tmp 6))⟩,
    ⟨(some 45), none, .val (.len (.tmp 44))⟩,
    ⟨(some 46), none, .val (.bin .gtr T.int (.tmp 45) (.const (.int 0)))⟩] [44, 45])
  (.cond (.tmp 46)
  .skip
  (.exit 2)))
  (.seq (.block 3 (.region [
    ⟨(some 49), none, .val (.mv (.tmp 4))⟩,
    ⟨(some 50), none, .val (.mv (.tmp 6))⟩,
    ⟨(some 51), none, .val (.slice 1 (.tmp 50) none (some (.const (.int 64))) none)⟩,
    ⟨(some 52), none, .call (.tmp 49) [(.tmp 51)]⟩] [49, 50, 51, 52]))
  (.region [
    ⟨(some 47), none, .val (.mv (.tmp 6))⟩,
    ⟨(some 48), none, .val (.slice 1 (.tmp 47) (some (.const (.int 64))) none none)⟩,
    ⟨(some 6), none, .val (.mv (.tmp 48))⟩] [47, 48])))))
  (.seq (.seq (.region [
    ⟨(some 53), none, .val (.load 8 true (.tmp 3))⟩,
    ⟨(some 54), none, .val (.mv (.const (.int 0)))⟩] [])
  (.block 4 (.loop (.seq (.region [
    ⟨(some 55), none, .val (.bin .lss T.int (.tmp 54) (.const (.int 8)))⟩] [])
  (.seq (.cond (.tmp 55)
  .skip
  (.exit 4))
  (.seq (.block 5 (.seq (.region [
    ⟨(some 56), none, .val (.mv (.tmp 54))⟩,
    ⟨(some 57), none, .val (.index 8 1 false (.tmp 53) (.tmp 54))⟩,
    ⟨(some 7), none, .val (.mv (.tmp 56))⟩,
    ⟨(some 8), none, .val (.mv (.tmp 57))⟩] [56, 57])
  (.region [
    ⟨(some 58), none, .val (.mv (.tmp 7))⟩,
    ⟨(some 59), none, .val (.bin .mul T.int (.const (.int 4)) (.tmp 58))⟩,
    ⟨(some 60), none, .val (.mv (.tmp 7))⟩,
    ⟨(some 61), none, .val (.bin .mul T.int (.const (.int 4)) (.tmp 60))⟩,
    ⟨(some 62), none, .val (.bin .add T.int (.tmp 61) (.const (.int 4)))⟩,
    ⟨(some 63), none, .val (.sliceArr 32 1 (.tmp 2) (some (.tmp 59)) (some (.tmp 62)) none)⟩,
    ⟨(some 64), none, .val (.mv (.tmp 8))⟩,
    ⟨(some 65), none, .val (.toInt .u64 (.tmp 64))⟩,
    ⟨(some 66), none, .call (.const (.func (.func F.digest_put) [] [])) [(.tmp 63), (.tmp 65)]⟩] [58, 59, 60, 61, 62, 63, 64, 65, 66])))
  (.region [
    ⟨(some 67), none, .val (.bin .add T.int (.tmp 54) (.const (.int 1)))⟩,
    ⟨(some 54), none, .val (.mv (.tmp 67))⟩] [67])))))))
  (.seq (.region [
    ⟨(some 68), none, .val (.load 32 true (.tmp 2))⟩,
    ⟨none, none, .store 32 (.tmp 2) (.tmp 68)⟩] [68])
  .ret)))))))))))))⟩
theorem H.digest_Sum : Has P F.digest_Sum C.digest_Sum := ⟨Tryd.f40, Tryd.func40, by kernel_rfl, by kernel_rfl⟩

/-- slices.Concat[[]byte,byte] -/
noncomputable def C.slices_Concat__Lbyte_byte : MFunc := ⟨36, 1, [.tmp 2],
  (.seq (.region [
    ⟨(some 2), none, .val (.mv (.const .nil))⟩] [])
  (.seq (.region [
    ⟨(some 3), none, .val (.mv (.const (.int 0)))⟩] [])
  (.seq (.seq (.region [
    ⟨(some 9), none, .val (.mv (.tmp 0))⟩,
    ⟨(some 10), none, .val (.len (.tmp 9))⟩,
    ⟨(some 11), none, .val (.mv (.const (.int 0)))⟩] [])
  (.block 0 (.loop (.seq (.region [
    ⟨(some 12), none, .val (.bin .lss T.int (.tmp 11) (.tmp 10))⟩] [])
  (.seq (.cond (.tmp 12)
  .skip
  (.exit 0))
  (.seq (.block 1 (.seq (.region [
    ⟨(some 13), none, .val (.indexAddr 1 (.tmp 9) (.tmp 11))⟩,
    ⟨(some 14), none, .val (.load 1 false (.tmp 13))⟩,
    ⟨(some 5), none, .val (.mv (.tmp 14))⟩] [13, 14])
  (.seq (.region [
    ⟨(some 15), none, .val (.mv (.tmp 3))⟩,
    ⟨(some 16), none, .val (.mv (.tmp 5))⟩,
    ⟨(some 17), none, .val (.len (.tmp 16))⟩,
    ⟨(some 18), none, .val (.bin .add T.int (.tmp 15) (.tmp 17))⟩,
    ⟨(some 3), none, .val (.mv (.tmp 18))⟩] [15, 16, 17, 18])
  (.seq (.region [
    ⟨(some 19), none, .val (.mv (.tmp 3))⟩,
    ⟨(some 20), none, .val (.bin .lss T.int (.tmp 19) (.const (.int 0)))⟩] [19])
  (.cond (.tmp 20)
  (.region [
    ⟨(some 21), none, .val (.mkIface T.string (.const (.val (.string ⟨#[108, 101, 110, 32, 111, 117, 116, 32, 111, 102, 32, 114, 97, 110, 103, 101]⟩))))⟩,
    ⟨none, none, .panic (.tmp 21)⟩] [21])
  .skip)))))
  (.region [
    ⟨(some 22), none, .val (.bin .add T.int (.tmp 11) (.const (.int 1)))⟩,
    ⟨(some 11), none, .val (.mv (.tmp 22))⟩] [22])))))))
  (.seq (.region [
    ⟨(some 23), none, .val (.mv (.tmp 3))⟩,
    ⟨(some 24), none, .call (.const (.func (.func F.slices_Grow__Lbyte_byte) [] [])) [(.const .nil), (.tmp 23)]⟩,
    ⟨(some 6), none, .val (.mv (.tmp 24))⟩] [23, 24])
  (.seq (.seq (.region [
    ⟨(some 25), none, .val (.mv (.tmp 0))⟩,
    ⟨(some 26), none, .val (.len (.tmp 25))⟩,
    ⟨(some 27), none, .val (.mv (.const (.int 0)))⟩] [])
  (.block 2 (.loop (.seq (.region [
    ⟨(some 28), none, .val (.bin .lss T.int (.tmp 27) (.tmp 26))⟩] [])
  (.seq (.cond (.tmp 28)
  .skip
  (.exit 2))
  (.seq (.block 3 (.seq (.region [
    ⟨(some 29), none, .val (.indexAddr 1 (.tmp 25) (.tmp 27))⟩,
    ⟨(some 30), none, .val (.load 1 false (.tmp 29))⟩,
    ⟨(some 8), none, .val (.mv (.tmp 30))⟩] [29, 30])
  (.region [
    ⟨(some 31), none, .val (.mv (.tmp 6))⟩,
    ⟨(some 32), none, .val (.mv (.tmp 8))⟩,
    ⟨(some 33), none, .append T.uint8 1 1 (.tmp 31) (.tmp 32)⟩,
    ⟨(some 6), none, .val (.mv (.tmp 33))⟩] [31, 32, 33])))
  (.region [
    ⟨(some 34), none, .val (.bin .add T.int (.tmp 27) (.const (.int 1)))⟩,
    ⟨(some 27), none, .val (.mv (.tmp 34))⟩] [34])))))))
  (.seq (.region [
    ⟨(some 35), none, .val (.mv (.tmp 6))⟩,
    ⟨(some 2), none, .val (.mv (.tmp 35))⟩] [35])
  .ret))))))⟩
theorem H.slices_Concat__Lbyte_byte : Has P F.slices_Concat__Lbyte_byte C.slices_Concat__Lbyte_byte := ⟨Tryd.f41, Tryd.func41, by kernel_rfl, by kernel_rfl⟩

/-- podium/podiumref34.within -/
noncomputable def C.podiumref34_within : MFunc := ⟨33, 2, [.tmp 4],
  (.seq (.region [
    ⟨(some 4), none, .val (.mv (.const (.bool false)))⟩] [])
  (.seq (.seq (.region [
    ⟨(some 5), none, .val (.mv (.const (.int 0)))⟩] [])
  (.block 0 (.loop (.seq (.seq (.region [
    ⟨(some 6), none, .val (.mv (.tmp 5))⟩,
    ⟨(some 7), none, .val (.mv (.tmp 0))⟩,
    ⟨(some 8), none, .val (.len (.tmp 7))⟩,
    ⟨(some 9), none, .val (.bin .lss T.int (.tmp 6) (.tmp 8))⟩] [6, 7, 8])
  (.cond (.tmp 9)
  .skip
  (.exit 0)))
  (.seq (.block 1 (.seq (.region [
    ⟨(some 12), none, .val (.mv (.tmp 0))⟩,
    ⟨(some 13), none, .val (.mv (.tmp 5))⟩,
    ⟨(some 14), none, .val (.indexAddr 1 (.tmp 12) (.tmp 13))⟩,
    ⟨(some 15), none, .val (.load 1 false (.tmp 14))⟩,
    ⟨(some 16), none, .val (.bin .lss T.int (.tmp 15) (.const (.int 0)))⟩,
    ⟨(some 17), none, .val (.mv (.tmp 16))⟩,
    ⟨(some 18), (some (17, false)), .val (.mv (.tmp 0))⟩,
    ⟨(some 19), (some (17, false)), .val (.mv (.tmp 5))⟩,
    ⟨(some 20), (some (17, false)), .val (.indexAddr 1 (.tmp 18) (.tmp 19))⟩,
    ⟨(some 21), (some (17, false)), .val (.load 1 false (.tmp 20))⟩,
    ⟨(some 22), (some (17, false)), .val (.mv (.tmp 1))⟩,
    ⟨(some 23), (some (17, false)), .val (.bin .gtr T.int (.tmp 21) (.tmp 22))⟩,
    ⟨(some 24), none, .val (.pick (.tmp 17) (.const (.bool true)) (.tmp 23))⟩] [12, 13, 14, 15, 16, 17, 18, 19, 20, 21, 22, 23])
  (.cond (.tmp 24)
  (.seq (.region [
    ⟨(some 4), none, .val (.mv (.const (.bool false)))⟩] [])
  .ret)
  .skip)))
  (.region [
    ⟨(some 10), none, .val (.mv (.tmp 5))⟩,
    ⟨(some 11), none, .val (.bin .add T.int (.tmp 10) (.const (.int 1)))⟩,
    ⟨(some 5), none, .val (.mv (.tmp 11))⟩] [10, 11]))))))
  (.seq (.region [
    ⟨(some 25), none, .val (.mv (.tmp 0))⟩,
    ⟨(some 26), none, .val (.len (.tmp 25))⟩,
    ⟨(some 27), none, .val (.bin .geq T.int (.tmp 26) (.const (.int 1)))⟩,
    ⟨(some 28), none, .val (.mv (.tmp 27))⟩,
    ⟨(some 29), (some (28, true)), .val (.mv (.tmp 0))⟩,
    ⟨(some 30), (some (28, true)), .val (.len (.tmp 29))⟩,
    ⟨(some 31), (some (28, true)), .val (.bin .leq T.int (.tmp 30) (.const (.int 64)))⟩,
    ⟨(some 32), none, .val (.pick (.tmp 28) (.tmp 31) (.const (.bool false)))⟩,
    ⟨(some 4), none, .val (.mv (.tmp 32))⟩] [25, 26, 27, 28, 29, 30, 31, 32])
  .ret)))⟩
theorem H.podiumref34_within : Has P F.podiumref34_within C.podiumref34_within := ⟨Tryd.f42, Tryd.func42, by kernel_rfl, by kernel_rfl⟩

/-- slices.Collect[podium/api.Share] -/
noncomputable def C.slices_Collect__apiShare : MFunc := ⟨5, 1, [.tmp 2],
  (.seq (.region [
    ⟨(some 2), none, .val (.mv (.const .nil))⟩] [])
  (.seq (.region [
    ⟨(some 3), none, .val (.mv (.tmp 0))⟩,
    ⟨(some 4), none, .call (.const (.func (.func F.slices_AppendSeq__LapiShare_apiShare) [] [])) [(.const .nil), (.tmp 3)]⟩,
    ⟨(some 2), none, .val (.mv (.tmp 4))⟩] [3, 4])
  .ret))⟩
theorem H.slices_Collect__apiShare : Has P F.slices_Collect__apiShare C.slices_Collect__apiShare := ⟨Tryd.f43, Tryd.func43, by kernel_rfl, by kernel_rfl⟩

/-- podium/shares.values -/
noncomputable def C.shares_values : MFunc := ⟨6, 2, [.tmp 4],
  (.seq (.region [
    ⟨(some 2), none, .box T.Lint (.tmp 0)⟩,
    ⟨(some 3), none, .box T.int (.tmp 1)⟩,
    ⟨(some 4), none, .val (.mv (.const (.val .nilFunc)))⟩] [])
  (.seq (.region [
    ⟨(some 5), none, .val (.mkFunc (.func F.shares_values_1) [] [(.tmp 3), (.tmp 2)])⟩,
    ⟨(some 4), none, .val (.mv (.tmp 5))⟩] [5])
  .ret))⟩
theorem H.shares_values : Has P F.shares_values C.shares_values := ⟨Tryd.f44, Tryd.func44, by kernel_rfl, by kernel_rfl⟩

/-- podium/podiumlaw34.inverse -/
noncomputable def C.podiumlaw34_inverse : MFunc := ⟨21, 1, [.tmp 2],
  (.seq (.region [
    ⟨(some 2), none, .val (.mv (.const (.int 0)))⟩] [])
  (.seq (.region [
    ⟨(some 3), none, .val (.mv (.const (.int 1)))⟩] [])
  (.seq (.seq (.region [
    ⟨(some 4), none, .val (.mv (.const (.int 1073741787)))⟩] [])
  (.block 0 (.loop (.seq (.seq (.region [
    ⟨(some 5), none, .val (.mv (.tmp 4))⟩,
    ⟨(some 6), none, .val (.bin .gtr T.int (.tmp 5) (.const (.int 0)))⟩] [5])
  (.cond (.tmp 6)
  .skip
  (.exit 0)))
  (.seq (.block 1 (.seq (.seq (.region [
    ⟨(some 9), none, .val (.mv (.tmp 4))⟩,
    ⟨(some 10), none, .val (.bin .rem T.int (.tmp 9) (.const (.int 2)))⟩,
    ⟨(some 11), none, .val (.bin .eql T.int (.tmp 10) (.const (.int 1)))⟩] [9, 10])
  (.cond (.tmp 11)
  (.region [
    ⟨(some 12), none, .val (.mv (.tmp 3))⟩,
    ⟨(some 13), none, .val (.mv (.tmp 0))⟩,
    ⟨(some 14), none, .val (.bin .mul T.int (.tmp 12) (.tmp 13))⟩,
    ⟨(some 15), none, .val (.bin .rem T.int (.tmp 14) (.const (.int 1073741789)))⟩,
    ⟨(some 3), none, .val (.mv (.tmp 15))⟩] [12, 13, 14, 15])
  .skip))
  (.region [
    ⟨(some 16), none, .val (.mv (.tmp 0))⟩,
    ⟨(some 17), none, .val (.mv (.tmp 0))⟩,
    ⟨(some 18), none, .val (.bin .mul T.int (.tmp 16) (.tmp 17))⟩,
    ⟨(some 19), none, .val (.bin .rem T.int (.tmp 18) (.const (.int 1073741789)))⟩,
    ⟨(some 0), none, .val (.mv (.tmp 19))⟩] [16, 17, 18, 19])))
  (.region [
    ⟨(some 7), none, .val (.mv (.tmp 4))⟩,
    ⟨(some 8), none, .val (.bin .quo T.int (.tmp 7) (.const (.int 2)))⟩,
    ⟨(some 4), none, .val (.mv (.tmp 8))⟩] [7, 8]))))))
  (.seq (.region [
    ⟨(some 20), none, .val (.mv (.tmp 3))⟩,
    ⟨(some 2), none, .val (.mv (.tmp 20))⟩] [20])
  .ret))))⟩
theorem H.podiumlaw34_inverse : Has P F.podiumlaw34_inverse C.podiumlaw34_inverse := ⟨Tryd.f45, Tryd.func45, by kernel_rfl, by kernel_rfl⟩

/-- podium/seal.within -/
noncomputable def C.seal_within : MFunc := ⟨12, 2, [.tmp 4],
  (.seq (.region [
    ⟨(some 4), none, .val (.mv (.const (.bool false)))⟩] [])
  (.seq (.region [
    ⟨(some 5), none, .val (.mv (.tmp 0))⟩,
    ⟨(some 6), none, .val (.bin .geq T.int (.tmp 5) (.const (.int 0)))⟩,
    ⟨(some 7), none, .val (.mv (.tmp 6))⟩,
    ⟨(some 8), (some (7, true)), .val (.mv (.tmp 0))⟩,
    ⟨(some 9), (some (7, true)), .val (.mv (.tmp 1))⟩,
    ⟨(some 10), (some (7, true)), .val (.bin .leq T.int (.tmp 8) (.tmp 9))⟩,
    ⟨(some 11), none, .val (.pick (.tmp 7) (.tmp 10) (.const (.bool false)))⟩,
    ⟨(some 4), none, .val (.mv (.tmp 11))⟩] [5, 6, 7, 8, 9, 10, 11])
  .ret))⟩
theorem H.seal_within : Has P F.seal_within C.seal_within := ⟨Tryd.f46, Tryd.func46, by kernel_rfl, by kernel_rfl⟩

/-- podium/seal.all$1 -/
noncomputable def C.seal_all_1 : MFunc := ⟨8, 2, [.tmp 3],
  (.seq (.region [
    ⟨(some 3), none, .val (.mv (.const (.bool false)))⟩] [])
  (.seq (.region [
    ⟨(some 4), none, .val (.mv (.tmp 0))⟩,
    ⟨(some 5), none, .val (.load 1 false (.tmp 1))⟩,
    ⟨(some 6), none, .call (.const (.func (.func F.seal_within) [] [])) [(.tmp 4), (.tmp 5)]⟩,
    ⟨(some 7), none, .val (.un .not (.tmp 6))⟩,
    ⟨(some 3), none, .val (.mv (.tmp 7))⟩] [4, 5, 6, 7])
  .ret))⟩
theorem H.seal_all_1 : Has P F.seal_all_1 C.seal_all_1 := ⟨Tryd.f47, Tryd.func47, by kernel_rfl, by kernel_rfl⟩

/-- slices.ContainsFunc[[]int,int] -/
noncomputable def C.slices_ContainsFunc__Lint_int : MFunc := ⟨9, 2, [.tmp 4],
  (.seq (.region [
    ⟨(some 4), none, .val (.mv (.const (.bool false)))⟩] [])
  (.seq (.region [
    ⟨(some 5), none, .val (.mv (.tmp 0))⟩,
    ⟨(some 6), none, .val (.mv (.tmp 1))⟩,
    ⟨(some 7), none, .call (.const (.func (.func F.slices_IndexFunc__Lint_int) [] [])) [(.tmp 5), (.tmp 6)]⟩,
    ⟨(some 8), none, .val (.bin .geq T.int (.tmp 7) (.const (.int 0)))⟩,
    ⟨(some 4), none, .val (.mv (.tmp 8))⟩] [5, 6, 7, 8])
  .ret))⟩
theorem H.slices_ContainsFunc__Lint_int : Has P F.slices_ContainsFunc__Lint_int C.slices_ContainsFunc__Lint_int := ⟨Tryd.f48, Tryd.func48, by kernel_rfl, by kernel_rfl⟩

/-- podium/seal.values -/
noncomputable def C.seal_values : MFunc := ⟨63, 1, [.cell 2 4 true],
  (.seq (.region [
    ⟨(some 2), none, .alloc T.apiValue [(.int 0), (.int 0), (.val (.string ⟨#[]⟩)), .nil]⟩] [])
  (.seq (.region [
    ⟨(some 11), none, .val (.fieldAddr 0 (.tmp 2))⟩,
    ⟨none, none, .store 1 (.tmp 11) (.const (.int 3))⟩] [11])
  (.seq (.seq (.region [
    ⟨(some 12), none, .val (.mv (.tmp 0))⟩,
    ⟨(some 13), none, .val (.len (.tmp 12))⟩,
    ⟨(some 14), none, .val (.mv (.const (.int 0)))⟩] [])
  (.block 0 (.loop (.seq (.region [
    ⟨(some 15), none, .val (.bin .lss T.int (.tmp 14) (.tmp 13))⟩] [])
  (.seq (.cond (.tmp 15)
  .skip
  (.exit 0))
  (.seq (.block 1 (.seq (.region [
    ⟨(some 16), none, .val (.indexAddr 1 (.tmp 12) (.tmp 14))⟩,
    ⟨(some 17), none, .val (.load 1 false (.tmp 16))⟩,
    ⟨(some 4), none, .val (.mv (.tmp 17))⟩] [16, 17])
  (.seq (.region [
    ⟨(some 18), none, .val (.mv (.tmp 4))⟩] [])
  (.block 2 (.seq (.region [
    ⟨(some 19), none, .val (.assert T.int (.int 0) true (.tmp 18))⟩,
    ⟨(some 20), none, .val (.extract 1 (.tmp 19))⟩,
    ⟨(some 21), none, .val (.extract 0 (.tmp 19))⟩] [19])
  (.cond (.tmp 20)
  (.seq (.region [
    ⟨(some 5), none, .val (.mv (.tmp 21))⟩] [])
  (.region [
    ⟨(some 22), none, .val (.fieldAddr 3 (.tmp 2))⟩,
    ⟨(some 23), none, .val (.load 1 false (.tmp 22))⟩,
    ⟨(some 24), none, .val (.mv (.tmp 5))⟩,
    ⟨(some 25), none, .val (.build [(.int 0), (.int 0), (.val (.string ⟨#[]⟩)), .nil] [(0, 1, (.const (.int 1))), (1, 1, (.tmp 24))])⟩,
    ⟨(some 26), none, .val (.buildSlice T.apiValue 1 [(.int 0), (.int 0), (.val (.string ⟨#[]⟩)), .nil] [(0, 4, (.tmp 25))])⟩,
    ⟨(some 27), none, .append T.apiValue 56 4 (.tmp 23) (.tmp 26)⟩,
    ⟨(some 28), none, .val (.fieldAddr 3 (.tmp 2))⟩,
    ⟨none, none, .store 1 (.tmp 28) (.tmp 27)⟩] [22, 23, 24, 25, 26, 27, 28]))
  (.seq (.region [
    ⟨(some 29), none, .val (.assert T.Lint .nil true (.tmp 18))⟩,
    ⟨(some 30), none, .val (.extract 1 (.tmp 29))⟩,
    ⟨(some 31), none, .val (.extract 0 (.tmp 29))⟩] [29])
  (.cond (.tmp 30)
  (.seq (.region [
    ⟨(some 6), none, .val (.mv (.tmp 31))⟩] [])
  (.seq (.region [
    ⟨(some 7), none, .val (.mv (.const .nil))⟩] [])
  (.seq (.seq (.region [
    ⟨(some 32), none, .val (.mv (.tmp 6))⟩,
    ⟨(some 33), none, .val (.len (.tmp 32))⟩,
    ⟨(some 34), none, .val (.mv (.const (.int 0)))⟩] [])
  (.block 3 (.loop (.seq (.region [
    ⟨(some 35), none, .val (.bin .lss T.int (.tmp 34) (.tmp 33))⟩] [])
  (.seq (.cond (.tmp 35)
  .skip
  (.exit 3))
  (.seq (.block 4 (.seq (.region [
    ⟨(some 36), none, .val (.indexAddr 1 (.tmp 32) (.tmp 34))⟩,
    ⟨(some 37), none, .val (.load 1 false (.tmp 36))⟩,
    ⟨(some 9), none, .val (.mv (.tmp 37))⟩] [36, 37])
  (.region [
    ⟨(some 38), none, .val (.mv (.tmp 7))⟩,
    ⟨(some 39), none, .val (.mv (.tmp 9))⟩,
    ⟨(some 40), none, .val (.mkIface T.int (.tmp 39))⟩,
    ⟨(some 41), none, .val (.buildSlice T.interface 1 [(.val .nilIface)] [(0, 1, (.tmp 40))])⟩,
    ⟨(some 42), none, .append T.interface 16 1 (.tmp 38) (.tmp 41)⟩,
    ⟨(some 7), none, .val (.mv (.tmp 42))⟩] [38, 39, 40, 41, 42])))
  (.region [
    ⟨(some 43), none, .val (.bin .add T.int (.tmp 34) (.const (.int 1)))⟩,
    ⟨(some 34), none, .val (.mv (.tmp 43))⟩] [43])))))))
  (.draw true [
    (.late, ⟨(some 44), none, .val (.fieldAddr 3 (.tmp 2))⟩),
    (.late, ⟨(some 45), none, .val (.load 1 false (.tmp 44))⟩),
    (.early, ⟨(some 46), none, .val (.mv (.tmp 7))⟩),
    (.hard, ⟨(some 47), none, .call (.const (.func (.func F.seal_values) [] [])) [(.tmp 46)]⟩),
    (.late, ⟨(some 48), none, .val (.buildSlice T.apiValue 1 [(.int 0), (.int 0), (.val (.string ⟨#[]⟩)), .nil] [(0, 4, (.tmp 47))])⟩),
    (.hard, ⟨(some 49), none, .append T.apiValue 56 4 (.tmp 45) (.tmp 48)⟩),
    (.late, ⟨(some 50), none, .val (.fieldAddr 3 (.tmp 2))⟩),
    (.last, ⟨none, none, .store 1 (.tmp 50) (.tmp 49)⟩)] [44, 45, 46, 47, 48, 49, 50]))))
  (.seq (.region [
    ⟨(some 51), none, .val (.assert T.string (.val (.string ⟨#[]⟩)) true (.tmp 18))⟩,
    ⟨(some 52), none, .val (.extract 1 (.tmp 51))⟩,
    ⟨(some 53), none, .val (.extract 0 (.tmp 51))⟩] [51])
  (.cond (.tmp 52)
  (.seq (.region [
    ⟨(some 10), none, .val (.mv (.tmp 53))⟩] [])
  (.region [
    ⟨(some 54), none, .val (.fieldAddr 3 (.tmp 2))⟩,
    ⟨(some 55), none, .val (.load 1 false (.tmp 54))⟩,
    ⟨(some 56), none, .val (.mv (.tmp 10))⟩,
    ⟨(some 57), none, .val (.build [(.int 0), (.int 0), (.val (.string ⟨#[]⟩)), .nil] [(0, 1, (.const (.int 2))), (2, 1, (.tmp 56))])⟩,
    ⟨(some 58), none, .val (.buildSlice T.apiValue 1 [(.int 0), (.int 0), (.val (.string ⟨#[]⟩)), .nil] [(0, 4, (.tmp 57))])⟩,
    ⟨(some 59), none, .append T.apiValue 56 4 (.tmp 55) (.tmp 58)⟩,
    ⟨(some 60), none, .val (.fieldAddr 3 (.tmp 2))⟩,
    ⟨none, none, .store 1 (.tmp 60) (.tmp 59)⟩] [54, 55, 56, 57, 58, 59, 60]))
  .skip))))))))))
  (.region [
    ⟨(some 61), none, .val (.bin .add T.int (.tmp 14) (.const (.int 1)))⟩,
    ⟨(some 14), none, .val (.mv (.tmp 61))⟩] [61])))))))
  (.seq (.region [
    ⟨(some 62), none, .val (.load 4 true (.tmp 2))⟩,
    ⟨none, none, .store 4 (.tmp 2) (.tmp 62)⟩] [62])
  .ret))))⟩
theorem H.seal_values : Has P F.seal_values C.seal_values := ⟨Tryd.f49, Tryd.func49, by kernel_rfl, by kernel_rfl⟩

/-- podium/podiumref02.Sum -/
noncomputable def C.podiumref02_Sum : MFunc := ⟨42, 1, [.cell 2 32 true],
  (.seq (.region [
    ⟨(some 2), none, .alloc T.apiDigest ((.val (.int .u8 0)) :: (.val (.int .u8 0)) :: (.val (.int .u8 0)) :: (.val (.int .u8 0)) :: (.val (.int .u8 0)) :: (.val (.int .u8 0)) :: (.val (.int .u8 0)) :: (.val (.int .u8 0)) :: (.val (.int .u8 0)) :: (.val (.int .u8 0)) :: (.val (.int .u8 0)) :: (.val (.int .u8 0)) :: (.val (.int .u8 0)) :: (.val (.int .u8 0)) :: (.val (.int .u8 0)) :: (.val (.int .u8 0)) :: (.val (.int .u8 0)) :: (.val (.int .u8 0)) :: (.val (.int .u8 0)) :: (.val (.int .u8 0)) :: (.val (.int .u8 0)) :: (.val (.int .u8 0)) :: (.val (.int .u8 0)) :: (.val (.int .u8 0)) :: (.val (.int .u8 0)) :: (.val (.int .u8 0)) :: (.val (.int .u8 0)) :: (.val (.int .u8 0)) :: (.val (.int .u8 0)) :: (.val (.int .u8 0)) :: (.val (.int .u8 0)) :: (.val (.int .u8 0)) :: [])⟩] [])
  (.seq (.region [
    ⟨(some 8), none, .val (.build [(.val (.int .u32 0)), (.val (.int .u32 0)), (.val (.int .u32 0)), (.val (.int .u32 0)), (.val (.int .u32 0)), (.val (.int .u32 0)), (.val (.int .u32 0)), (.val (.int .u32 0))] [(0, 1, (.const (.val (.int .u32 1779033703)))), (1, 1, (.const (.val (.int .u32 3144134277)))), (2, 1, (.const (.val (.int .u32 1013904242)))), (3, 1, (.const (.val (.int .u32 2773480762)))), (4, 1, (.const (.val (.int .u32 1359893119)))), (5, 1, (.const (.val (.int .u32 2600822924)))), (6, 1, (.const (.val (.int .u32 528734635)))), (7, 1, (.const (.val (.int .u32 1541459225))))])⟩,
    ⟨(some 3), none, .alloc T.t8uint32 [(.val (.int .u32 0)), (.val (.int .u32 0)), (.val (.int .u32 0)), (.val (.int .u32 0)), (.val (.int .u32 0)), (.val (.int .u32 0)), (.val (.int .u32 0)), (.val (.int .u32 0))]⟩,
    ⟨none, none, .store 8 (.tmp 3) (.tmp 8)⟩] [8])
  (.seq (.region [
    ⟨(some 9), none, .val (.mv (.tmp 0))⟩,
    ⟨(some 10), none, .call (.const (.func (.func F.podiumref02_padded) [] [])) [(.tmp 9)]⟩,
    ⟨(some 4), none, .val (.mv (.tmp 10))⟩] [9, 10])
  (.seq (.seq (.region [
    ⟨(some 5), none, .val (.mv (.const (.int 0)))⟩] [])
  (.block 0 (.loop (.seq (.seq (.region [
    ⟨(some 11), none, .val (.mv (.tmp 5))⟩,
    ⟨(some 12), none, .val (.mv (.tmp 4))⟩,
    ⟨(some 13), none, .val (.len (.tmp 12))⟩,
    ⟨(some 14), none, .val (.bin .lss T.int (.tmp 11) (.tmp 13))⟩] [11, 12, 13])
  (.cond (.tmp 14)
  .skip
  (.exit 0)))
  (.seq (.block 1 (.draw false [
    (.early, ⟨(some 17), none, .val (.load 8 true (.tmp 3))⟩),
    (.early, ⟨(some 18), none, .val (.mv (.tmp 4))⟩),
    (.early, ⟨(some 19), none, .val (.mv (.tmp 5))⟩),
    (.early, ⟨(some 20), none, .val (.mv (.tmp 5))⟩),
    (.early, ⟨(some 21), none, .val (.bin .add T.int (.tmp 20) (.const (.int 64)))⟩),
    (.early, ⟨(some 22), none, .val (.slice 1 (.tmp 18) (some (.tmp 19)) (some (.tmp 21)) none)⟩),
    (.hard, ⟨(some 23), none, .call (.const (.func (.func F.podiumref02_block) [] [])) [(.tmp 17), (.tmp 22)]⟩),
    (.last, ⟨none, none, .store 8 (.tmp 3) (.tmp 23)⟩)] [17, 18, 19, 20, 21, 22, 23]))
  (.region [
    ⟨(some 15), none, .val (.mv (.tmp 5))⟩,
    ⟨(some 16), none, .val (.bin .add T.int (.tmp 15) (.const (.int 64)))⟩,
    ⟨(some 5), none, .val (.mv (.tmp 16))⟩] [15, 16]))))))
  (.seq (.region [
    ⟨(some 24), none, .val (.build ((.val (.int .u8 0)) :: (.val (.int .u8 0)) :: (.val (.int .u8 0)) :: (.val (.int .u8 0)) :: (.val (.int .u8 0)) :: (.val (.int .u8 0)) :: (.val (.int .u8 0)) :: (.val (.int .u8 0)) :: (.val (.int .u8 0)) :: (.val (.int .u8 0)) :: (.val (.int .u8 0)) :: (.val (.int .u8 0)) :: (.val (.int .u8 0)) :: (.val (.int .u8 0)) :: (.val (.int .u8 0)) :: (.val (.int .u8 0)) :: (.val (.int .u8 0)) :: (.val (.int .u8 0)) :: (.val (.int .u8 0)) :: (.val (.int .u8 0)) :: (.val (.int .u8 0)) :: (.val (.int .u8 0)) :: (.val (.int .u8 0)) :: (.val (.int .u8 0)) :: (.val (.int .u8 0)) :: (.val (.int .u8 0)) :: (.val (.int .u8 0)) :: (.val (.int .u8 0)) :: (.val (.int .u8 0)) :: (.val (.int .u8 0)) :: (.val (.int .u8 0)) :: (.val (.int .u8 0)) :: []) [])⟩,
    ⟨(some 6), none, .alloc T.apiDigest ((.val (.int .u8 0)) :: (.val (.int .u8 0)) :: (.val (.int .u8 0)) :: (.val (.int .u8 0)) :: (.val (.int .u8 0)) :: (.val (.int .u8 0)) :: (.val (.int .u8 0)) :: (.val (.int .u8 0)) :: (.val (.int .u8 0)) :: (.val (.int .u8 0)) :: (.val (.int .u8 0)) :: (.val (.int .u8 0)) :: (.val (.int .u8 0)) :: (.val (.int .u8 0)) :: (.val (.int .u8 0)) :: (.val (.int .u8 0)) :: (.val (.int .u8 0)) :: (.val (.int .u8 0)) :: (.val (.int .u8 0)) :: (.val (.int .u8 0)) :: (.val (.int .u8 0)) :: (.val (.int .u8 0)) :: (.val (.int .u8 0)) :: (.val (.int .u8 0)) :: (.val (.int .u8 0)) :: (.val (.int .u8 0)) :: (.val (.int .u8 0)) :: (.val (.int .u8 0)) :: (.val (.int .u8 0)) :: (.val (.int .u8 0)) :: (.val (.int .u8 0)) :: (.val (.int .u8 0)) :: [])⟩,
    ⟨none, none, .store 32 (.tmp 6) (.tmp 24)⟩] [24])
  (.seq (.seq (.region [
    ⟨(some 7), none, .val (.mv (.const (.int 0)))⟩] [])
  (.block 2 (.loop (.seq (.seq (.region [
    ⟨(some 25), none, .val (.mv (.tmp 7))⟩,
    ⟨(some 26), none, .val (.bin .lss T.int (.tmp 25) (.const (.int 32)))⟩] [25])
  (.cond (.tmp 26)
  .skip
  (.exit 2)))
  (.seq (.block 3 (.region [
    ⟨(some 29), none, .val (.mv (.tmp 7))⟩,
    ⟨(some 30), none, .val (.mv (.tmp 7))⟩,
    ⟨(some 31), none, .val (.bin .quo T.int (.tmp 30) (.const (.int 4)))⟩,
    ⟨(some 32), none, .val (.indexArr 8 1 (.tmp 3) (.tmp 31))⟩,
    ⟨(some 33), none, .val (.load 1 false (.tmp 32))⟩,
    ⟨(some 34), none, .val (.mv (.tmp 7))⟩,
    ⟨(some 35), none, .val (.bin .rem T.int (.tmp 34) (.const (.int 4)))⟩,
    ⟨(some 36), none, .val (.bin .mul T.int (.const (.int 8)) (.tmp 35))⟩,
    ⟨(some 37), none, .val (.bin .sub T.int (.const (.int 24)) (.tmp 36))⟩,
    ⟨(some 38), none, .val (.bin .shr T.uint32 (.tmp 33) (.tmp 37))⟩,
    ⟨(some 39), none, .val (.toInt .u8 (.tmp 38))⟩,
    ⟨(some 40), none, .val (.indexArr 32 1 (.tmp 6) (.tmp 29))⟩,
    ⟨none, none, .store 1 (.tmp 40) (.tmp 39)⟩] [29, 30, 31, 32, 33, 34, 35, 36, 37, 38, 39, 40]))
  (.region [
    ⟨(some 27), none, .val (.mv (.tmp 7))⟩,
    ⟨(some 28), none, .val (.bin .add T.int (.tmp 27) (.const (.int 1)))⟩,
    ⟨(some 7), none, .val (.mv (.tmp 28))⟩] [27, 28]))))))
  (.seq (.region [
    ⟨(some 41), none, .val (.load 32 true (.tmp 6))⟩,
    ⟨none, none, .store 32 (.tmp 2) (.tmp 41)⟩] [41])
  .ret)))))))⟩
theorem H.podiumref02_Sum : Has P F.podiumref02_Sum C.podiumref02_Sum := ⟨Tryd.f50, Tryd.func50, by kernel_rfl, by kernel_rfl⟩

/-- podium/podiumref01.Encode -/
noncomputable def C.podiumref01_Encode : MFunc := ⟨12, 1, [.tmp 2, .tmp 3],
  (.seq (.region [
    ⟨(some 1), none, .box T.apiValue (.tmp 0)⟩,
    ⟨(some 2), none, .val (.mv (.const .nil))⟩,
    ⟨(some 3), none, .val (.mv (.const (.int 0)))⟩] [])
  (.seq (.region [
    ⟨(some 5), none, .val (.load 4 true (.tmp 1))⟩,
    ⟨(some 6), none, .call (.const (.func (.func F.podiumref01_Check) [] [])) [(.tmp 5)]⟩,
    ⟨(some 4), none, .val (.mv (.tmp 6))⟩] [5, 6])
  (.seq (.seq (.region [
    ⟨(some 7), none, .val (.mv (.tmp 4))⟩,
    ⟨(some 8), none, .val (.bin .neq T.apiErrno (.tmp 7) (.const (.int 0)))⟩] [7])
  (.cond (.tmp 8)
  (.seq (.region [
    ⟨(some 9), none, .val (.mv (.tmp 4))⟩,
    ⟨(some 2), none, .val (.mv (.const .nil))⟩,
    ⟨(some 3), none, .val (.mv (.tmp 9))⟩] [9])
  .ret)
  .skip))
  (.seq (.region [
    ⟨(some 10), none, .val (.load 4 true (.tmp 1))⟩,
    ⟨(some 11), none, .call (.const (.func (.func F.podiumref01_encode) [] [])) [(.tmp 10)]⟩,
    ⟨(some 2), none, .val (.mv (.tmp 11))⟩,
    ⟨(some 3), none, .val (.mv (.const (.int 0)))⟩] [10, 11])
  .ret))))⟩
theorem H.podiumref01_Encode : Has P F.podiumref01_Encode C.podiumref01_Encode := ⟨Tryd.f51, Tryd.func51, by kernel_rfl, by kernel_rfl⟩

/-- podium/seal.bare$1 -/
noncomputable def C.seal_bare_1 : MFunc := ⟨13, 2, [.tmp 4],
  (.seq (.region [
    ⟨(some 4), none, .val (.mv (.const (.int 0)))⟩] [])
  (.seq (.seq (.region [
    ⟨(some 5), none, .val (.mv (.tmp 0))⟩,
    ⟨(some 6), none, .val (.mv (.tmp 1))⟩,
    ⟨(some 7), none, .val (.bin .lss T.int (.tmp 5) (.tmp 6))⟩] [5, 6])
  (.cond (.tmp 7)
  (.region [
    ⟨(some 8), none, .val (.mv (.tmp 0))⟩,
    ⟨(some 9), none, .val (.bin .add T.int (.tmp 8) (.const (.int 1073741789)))⟩,
    ⟨(some 0), none, .val (.mv (.tmp 9))⟩] [8, 9])
  .skip))
  (.seq (.region [
    ⟨(some 10), none, .val (.mv (.tmp 0))⟩,
    ⟨(some 11), none, .val (.mv (.tmp 1))⟩,
    ⟨(some 12), none, .val (.bin .sub T.int (.tmp 10) (.tmp 11))⟩,
    ⟨(some 4), none, .val (.mv (.tmp 12))⟩] [10, 11, 12])
  .ret)))⟩
theorem H.seal_bare_1 : Has P F.seal_bare_1 C.seal_bare_1 := ⟨Tryd.f52, Tryd.func52, by kernel_rfl, by kernel_rfl⟩

/-- podium/codec.Check -/
noncomputable def C.codec_Check : MFunc := ⟨16, 1, [.tmp 2],
  (.seq (.region [
    ⟨(some 1), none, .box T.apiValue (.tmp 0)⟩,
    ⟨(some 2), none, .val (.mv (.const (.int 0)))⟩] [])
  (.seq (.region [
    ⟨(some 6), none, .val (.load 4 true (.tmp 1))⟩,
    ⟨(some 7), none, .call (.const (.func (.func F.codec_formed) [] [])) [(.tmp 6)]⟩,
    ⟨(some 5), none, .val (.mv (.tmp 7))⟩,
    ⟨(some 8), none, .val (.extract 0 (.tmp 5))⟩,
    ⟨(some 9), none, .val (.extract 1 (.tmp 5))⟩,
    ⟨(some 3), none, .val (.mv (.tmp 8))⟩,
    ⟨(some 4), none, .val (.mv (.tmp 9))⟩] [6, 7, 5, 8, 9])
  (.seq (.block 0 (.seq (.region [
    ⟨(some 11), none, .val (.mv (.tmp 4))⟩,
    ⟨(some 12), none, .val (.un .not (.tmp 11))⟩,
    ⟨(some 10), none, .val (.mv (.tmp 12))⟩] [11, 12])
  (.cond (.tmp 10)
  (.seq (.region [
    ⟨(some 2), none, .val (.mv (.const (.int 1)))⟩] [])
  .ret)
  (.seq (.region [
    ⟨(some 14), none, .val (.mv (.tmp 3))⟩,
    ⟨(some 15), none, .val (.bin .gtr T.int (.tmp 14) (.const (.int 16)))⟩,
    ⟨(some 13), none, .val (.mv (.tmp 15))⟩] [14, 15])
  (.cond (.tmp 13)
  (.seq (.region [
    ⟨(some 2), none, .val (.mv (.const (.int 2)))⟩] [])
  .ret)
  .skip)))))
  (.seq (.region [
    ⟨(some 2), none, .val (.mv (.const (.int 0)))⟩] [])
  .ret))))⟩
theorem H.codec_Check : Has P F.codec_Check C.codec_Check := ⟨Tryd.f53, Tryd.func53, by kernel_rfl, by kernel_rfl⟩

/-- podium/codec.newWriter -/
noncomputable def C.codec_newWriter : MFunc := ⟨18, 0, [.tmp 0],
  (.seq (.region [
    ⟨(some 0), none, .val (.mv (.const (.val (.pointer none))))⟩] [])
  (.seq (.region [
    ⟨(some 2), none, .val (.build [(.val .nilFunc), (.val .nilFunc), (.val .nilFunc), (.val .nilFunc)] [])⟩,
    ⟨(some 3), none, .box T.codecwriter_2 (.tmp 2)⟩,
    ⟨(some 1), none, .alloc T.codecwriter [(.val (.pointer none))]⟩,
    ⟨none, none, .store 1 (.tmp 1) (.tmp 3)⟩] [2, 3])
  (.seq (.region [
    ⟨(some 4), none, .val (.load 1 false (.tmp 1))⟩,
    ⟨(some 5), none, .val (.nilCheck (.tmp 4))⟩,
    ⟨(some 6), none, .val (.indexArr 4 1 (.tmp 5) (.const (.int 1)))⟩,
    ⟨(some 7), none, .val (.fieldAddr 0 (.tmp 6))⟩,
    ⟨none, none, .store 1 (.tmp 7) (.const (.func (.func F.codec_newWriter_1) [] []))⟩] [4, 5, 6, 7])
  (.seq (.region [
    ⟨(some 8), none, .val (.load 1 false (.tmp 1))⟩,
    ⟨(some 9), none, .val (.nilCheck (.tmp 8))⟩,
    ⟨(some 10), none, .val (.indexArr 4 1 (.tmp 9) (.const (.int 2)))⟩,
    ⟨(some 11), none, .val (.fieldAddr 0 (.tmp 10))⟩,
    ⟨none, none, .store 1 (.tmp 11) (.const (.func (.func F.codec_newWriter_2) [] []))⟩] [8, 9, 10, 11])
  (.seq (.region [
    ⟨(some 12), none, .val (.load 1 false (.tmp 1))⟩,
    ⟨(some 13), none, .val (.mkFunc (.func F.codec_newWriter_3) [] [(.tmp 1)])⟩,
    ⟨(some 14), none, .val (.nilCheck (.tmp 12))⟩,
    ⟨(some 15), none, .val (.indexArr 4 1 (.tmp 14) (.const (.int 3)))⟩,
    ⟨(some 16), none, .val (.fieldAddr 0 (.tmp 15))⟩,
    ⟨none, none, .store 1 (.tmp 16) (.tmp 13)⟩] [12, 13, 14, 15, 16])
  (.seq (.region [
    ⟨(some 17), none, .val (.load 1 false (.tmp 1))⟩,
    ⟨(some 0), none, .val (.mv (.tmp 17))⟩] [17])
  .ret))))))⟩
theorem H.codec_newWriter : Has P F.codec_newWriter C.codec_newWriter := ⟨Tryd.f54, Tryd.func54, by kernel_rfl, by kernel_rfl⟩

/-- (*podium/digest.state).absorb -/
noncomputable def C.Pdigest_state_absorb : MFunc := ⟨144, 2, [],
  (.seq (.region [
    ⟨(some 4), none, .alloc T.t64uint32 ((.val (.int .u32 0)) :: (.val (.int .u32 0)) :: (.val (.int .u32 0)) :: (.val (.int .u32 0)) :: (.val (.int .u32 0)) :: (.val (.int .u32 0)) :: (.val (.int .u32 0)) :: (.val (.int .u32 0)) :: (.val (.int .u32 0)) :: (.val (.int .u32 0)) :: (.val (.int .u32 0)) :: (.val (.int .u32 0)) :: (.val (.int .u32 0)) :: (.val (.int .u32 0)) :: (.val (.int .u32 0)) :: (.val (.int .u32 0)) :: (.val (.int .u32 0)) :: (.val (.int .u32 0)) :: (.val (.int .u32 0)) :: (.val (.int .u32 0)) :: (.val (.int .u32 0)) :: (.val (.int .u32 0)) :: (.val (.int .u32 0)) :: (.val (.int .u32 0)) :: (.val (.int .u32 0)) :: (.val (.int .u32 0)) :: (.val (.int .u32 0)) :: (.val (.int .u32 0)) :: (.val (.int .u32 0)) :: (.val (.int .u32 0)) :: (.val (.int .u32 0)) :: (.val (.int .u32 0)) :: (.val (.int .u32 0)) :: (.val (.int .u32 0)) :: (.val (.int .u32 0)) :: (.val (.int .u32 0)) :: (.val (.int .u32 0)) :: (.val (.int .u32 0)) :: (.val (.int .u32 0)) :: (.val (.int .u32 0)) :: (.val (.int .u32 0)) :: (.val (.int .u32 0)) :: (.val (.int .u32 0)) :: (.val (.int .u32 0)) :: (.val (.int .u32 0)) :: (.val (.int .u32 0)) :: (.val (.int .u32 0)) :: (.val (.int .u32 0)) :: (.val (.int .u32 0)) :: (.val (.int .u32 0)) :: (.val (.int .u32 0)) :: (.val (.int .u32 0)) :: (.val (.int .u32 0)) :: (.val (.int .u32 0)) :: (.val (.int .u32 0)) :: (.val (.int .u32 0)) :: (.val (.int .u32 0)) :: (.val (.int .u32 0)) :: (.val (.int .u32 0)) :: (.val (.int .u32 0)) :: (.val (.int .u32 0)) :: (.val (.int .u32 0)) :: (.val (.int .u32 0)) :: (.val (.int .u32 0)) :: [])⟩] [])
  (.seq (.seq (.region [
    ⟨(some 14), none, .val (.mv (.const (.int 0)))⟩] [])
  (.block 0 (.loop (.seq (.region [
    ⟨(some 15), none, .val (.bin .lss T.int (.tmp 14) (.const (.int 16)))⟩] [])
  (.seq (.cond (.tmp 15)
  .skip
  (.exit 0))
  (.seq (.block 1 (.seq (.region [
    ⟨(some 16), none, .val (.mv (.tmp 14))⟩,
    ⟨(some 5), none, .val (.mv (.tmp 16))⟩] [16])
  (.region [
    ⟨(some 17), none, .val (.mv (.tmp 5))⟩,
    ⟨(some 18), none, .val (.mv (.tmp 1))⟩,
    ⟨(some 19), none, .val (.mv (.tmp 5))⟩,
    ⟨(some 20), none, .val (.bin .mul T.int (.const (.int 4)) (.tmp 19))⟩,
    ⟨(some 21), none, .val (.slice 1 (.tmp 18) (some (.tmp 20)) none none)⟩,
    ⟨(some 22), none, .call (.const (.func (.func F.digest_word) [] [])) [(.tmp 21)]⟩,
    ⟨(some 23), none, .val (.indexArr 64 1 (.tmp 4) (.tmp 17))⟩,
    ⟨none, none, .store 1 (.tmp 23) (.tmp 22)⟩] [17, 18, 19, 20, 21, 22, 23])))
  (.region [
    ⟨(some 24), none, .val (.bin .add T.int (.tmp 14) (.const (.int 1)))⟩,
    ⟨(some 14), none, .val (.mv (.tmp 24))⟩] [24])))))))
  (.seq (.seq (.region [
    ⟨(some 6), none, .val (.mv (.const (.int 16)))⟩] [])
  (.block 2 (.loop (.seq (.seq (.region [
    ⟨(some 25), none, .val (.mv (.tmp 6))⟩,
    ⟨(some 26), none, .val (.bin .lss T.int (.tmp 25) (.const (.int 64)))⟩] [25])
  (.cond (.tmp 26)
  .skip
  (.exit 2)))
  (.seq (.block 3 (.seq (.draw false [
    (.early, ⟨(some 29), none, .val (.mv (.tmp 6))⟩),
    (.early, ⟨(some 30), none, .val (.bin .sub T.int (.tmp 29) (.const (.int 15)))⟩),
    (.early, ⟨(some 31), none, .val (.indexArr 64 1 (.tmp 4) (.tmp 30))⟩),
    (.early, ⟨(some 32), none, .val (.load 1 false (.tmp 31))⟩),
    (.early, ⟨(some 33), none, .val (.mv (.tmp 6))⟩),
    (.early, ⟨(some 34), none, .val (.bin .sub T.int (.tmp 33) (.const (.int 2)))⟩),
    (.early, ⟨(some 35), none, .val (.indexArr 64 1 (.tmp 4) (.tmp 34))⟩),
    (.early, ⟨(some 36), none, .val (.load 1 false (.tmp 35))⟩),
    (.early, ⟨(some 7), none, .val (.mv (.tmp 32))⟩),
    (.early, ⟨(some 8), none, .val (.mv (.tmp 36))⟩)] [29, 30, 31, 32, 33, 34, 35, 36])
  (.draw true [
    (.late, ⟨(some 37), none, .val (.mv (.tmp 6))⟩),
    (.late, ⟨(some 38), none, .val (.mv (.tmp 6))⟩),
    (.late, ⟨(some 39), none, .val (.bin .sub T.int (.tmp 38) (.const (.int 16)))⟩),
    (.late, ⟨(some 40), none, .val (.indexArr 64 1 (.tmp 4) (.tmp 39))⟩),
    (.late, ⟨(some 41), none, .val (.load 1 false (.tmp 40))⟩),
    (.early, ⟨(some 42), none, .val (.mv (.tmp 7))⟩),
    (.late, ⟨(some 44), none, .val (.mv (.tmp 7))⟩),
    (.late, ⟨(some 47), none, .val (.mv (.tmp 7))⟩),
    (.late, ⟨(some 48), none, .val (.bin .shr T.uint32 (.tmp 47) (.const (.val (.int .u64 3))))⟩),
    (.late, ⟨(some 51), none, .val (.mv (.tmp 6))⟩),
    (.late, ⟨(some 52), none, .val (.bin .sub T.int (.tmp 51) (.const (.int 7)))⟩),
    (.late, ⟨(some 53), none, .val (.indexArr 64 1 (.tmp 4) (.tmp 52))⟩),
    (.late, ⟨(some 54), none, .val (.load 1 false (.tmp 53))⟩),
    (.late, ⟨(some 56), none, .val (.mv (.tmp 8))⟩),
    (.late, ⟨(some 58), none, .val (.mv (.tmp 8))⟩),
    (.late, ⟨(some 61), none, .val (.mv (.tmp 8))⟩),
    (.late, ⟨(some 62), none, .val (.bin .shr T.uint32 (.tmp 61) (.const (.val (.int .u64 10))))⟩),
    (.hard, ⟨(some 43), none, .call (.const (.func (.func F.math_bits_RotateLeft32) [] [])) [(.tmp 42), (.const (.int (-7)))]⟩),
    (.hard, ⟨(some 45), none, .call (.const (.func (.func F.math_bits_RotateLeft32) [] [])) [(.tmp 44), (.const (.int (-18)))]⟩),
    (.late, ⟨(some 46), none, .val (.bin .xor T.uint32 (.tmp 43) (.tmp 45))⟩),
    (.late, ⟨(some 49), none, .val (.bin .xor T.uint32 (.tmp 46) (.tmp 48))⟩),
    (.late, ⟨(some 50), none, .val (.bin .add T.uint32 (.tmp 41) (.tmp 49))⟩),
    (.late, ⟨(some 55), none, .val (.bin .add T.uint32 (.tmp 50) (.tmp 54))⟩),
    (.hard, ⟨(some 57), none, .call (.const (.func (.func F.math_bits_RotateLeft32) [] [])) [(.tmp 56), (.const (.int (-17)))]⟩),
    (.hard, ⟨(some 59), none, .call (.const (.func (.func F.math_bits_RotateLeft32) [] [])) [(.tmp 58), (.const (.int (-19)))]⟩),
    (.late, ⟨(some 60), none, .val (.bin .xor T.uint32 (.tmp 57) (.tmp 59))⟩),
    (.late, ⟨(some 63), none, .val (.bin .xor T.uint32 (.tmp 60) (.tmp 62))⟩),
    (.late, ⟨(some 64), none, .val (.bin .add T.uint32 (.tmp 55) (.tmp 63))⟩),
    (.late, ⟨(some 65), none, .val (.indexArr 64 1 (.tmp 4) (.tmp 37))⟩),
    (.last, ⟨none, none, .store 1 (.tmp 65) (.tmp 64)⟩)] [37, 38, 39, 40, 41, 42, 43, 44, 45, 46, 47, 48, 49, 50, 51, 52, 53, 54, 55, 56, 57, 58, 59, 60, 61, 62, 63, 64, 65])))
  (.region [
    ⟨(some 27), none, .val (.mv (.tmp 6))⟩,
    ⟨(some 28), none, .val (.bin .add T.int (.tmp 27) (.const (.int 1)))⟩,
    ⟨(some 6), none, .val (.mv (.tmp 28))⟩] [27, 28]))))))
  (.seq (.region [
    ⟨(some 66), none, .val (.mv (.tmp 0))⟩,
    ⟨(some 67), none, .val (.nilCheck (.tmp 66))⟩,
    ⟨(some 68), none, .val (.load 8 true (.tmp 67))⟩,
    ⟨(some 9), none, .alloc T.digeststate [(.val (.int .u32 0)), (.val (.int .u32 0)), (.val (.int .u32 0)), (.val (.int .u32 0)), (.val (.int .u32 0)), (.val (.int .u32 0)), (.val (.int .u32 0)), (.val (.int .u32 0))]⟩,
    ⟨none, none, .store 8 (.tmp 9) (.tmp 68)⟩] [66, 67, 68])
  (.seq (.seq (.region [
    ⟨(some 69), none, .val (.mv (.const (.int 0)))⟩] [])
  (.block 4 (.loop (.seq (.region [
    ⟨(some 70), none, .val (.bin .lss T.int (.tmp 69) (.const (.int 64)))⟩] [])
  (.seq (.cond (.tmp 70)
  .skip
  (.exit 4))
  (.seq (.block 5 (.seq (.region [
    ⟨(some 71), none, .val (.mv (.tmp 69))⟩,
    ⟨(some 10), none, .val (.mv (.tmp 71))⟩] [71])
  (.seq (.draw true [
    (.late, ⟨(some 72), none, .val (.indexArr 8 1 (.tmp 9) (.const (.int 7)))⟩),
    (.late, ⟨(some 73), none, .val (.load 1 false (.tmp 72))⟩),
    (.early, ⟨(some 74), none, .val (.indexArr 8 1 (.tmp 9) (.const (.int 4)))⟩),
    (.early, ⟨(some 75), none, .val (.load 1 false (.tmp 74))⟩),
    (.late, ⟨(some 78), none, .val (.indexArr 8 1 (.tmp 9) (.const (.int 6)))⟩),
    (.late, ⟨(some 79), none, .val (.load 1 false (.tmp 78))⟩),
    (.late, ⟨(some 80), none, .val (.indexArr 8 1 (.tmp 9) (.const (.int 4)))⟩),
    (.late, ⟨(some 81), none, .val (.load 1 false (.tmp 80))⟩),
    (.late, ⟨(some 82), none, .val (.indexArr 8 1 (.tmp 9) (.const (.int 5)))⟩),
    (.late, ⟨(some 83), none, .val (.load 1 false (.tmp 82))⟩),
    (.late, ⟨(some 84), none, .val (.indexArr 8 1 (.tmp 9) (.const (.int 6)))⟩),
    (.late, ⟨(some 85), none, .val (.load 1 false (.tmp 84))⟩),
    (.late, ⟨(some 86), none, .val (.bin .xor T.uint32 (.tmp 83) (.tmp 85))⟩),
    (.late, ⟨(some 87), none, .val (.bin .and T.uint32 (.tmp 81) (.tmp 86))⟩),
    (.late, ⟨(some 88), none, .val (.bin .xor T.uint32 (.tmp 79) (.tmp 87))⟩),
    (.late, ⟨(some 90), none, .val (.mv (.tmp 10))⟩),
    (.late, ⟨(some 91), none, .val (.indexArr 64 1 (.const (.val (.pointer (some ⟨1, 0, none⟩)))) (.tmp 90))⟩),
    (.late, ⟨(some 92), none, .val (.load 1 false (.tmp 91))⟩),
    (.late, ⟨(some 94), none, .val (.mv (.tmp 10))⟩),
    (.late, ⟨(some 95), none, .val (.indexArr 64 1 (.tmp 4) (.tmp 94))⟩),
    (.late, ⟨(some 96), none, .val (.load 1 false (.tmp 95))⟩),
    (.hard, ⟨(some 76), none, .call (.const (.func (.func F.digest_rotated) [] [])) [(.tmp 75), (.const (.int 6)), (.const (.int 11)), (.const (.int 25))]⟩),
    (.late, ⟨(some 77), none, .val (.bin .add T.uint32 (.tmp 73) (.tmp 76))⟩),
    (.late, ⟨(some 89), none, .val (.bin .add T.uint32 (.tmp 77) (.tmp 88))⟩),
    (.late, ⟨(some 93), none, .val (.bin .add T.uint32 (.tmp 89) (.tmp 92))⟩),
    (.late, ⟨(some 97), none, .val (.bin .add T.uint32 (.tmp 93) (.tmp 96))⟩),
    (.late, ⟨(some 11), none, .val (.mv (.tmp 97))⟩)] [72, 73, 74, 75, 76, 77, 78, 79, 80, 81, 82, 83, 84, 85, 86, 87, 88, 89, 90, 91, 92, 93, 94, 95, 96, 97])
  (.seq (.draw true [
    (.early, ⟨(some 98), none, .val (.indexArr 8 1 (.tmp 9) (.const (.int 0)))⟩),
    (.early, ⟨(some 99), none, .val (.load 1 false (.tmp 98))⟩),
    (.late, ⟨(some 101), none, .val (.indexArr 8 1 (.tmp 9) (.const (.int 0)))⟩),
    (.late, ⟨(some 102), none, .val (.load 1 false (.tmp 101))⟩),
    (.late, ⟨(some 103), none, .val (.indexArr 8 1 (.tmp 9) (.const (.int 1)))⟩),
    (.late, ⟨(some 104), none, .val (.load 1 false (.tmp 103))⟩),
    (.late, ⟨(some 105), none, .val (.bin .and T.uint32 (.tmp 102) (.tmp 104))⟩),
    (.late, ⟨(some 106), none, .val (.indexArr 8 1 (.tmp 9) (.const (.int 2)))⟩),
    (.late, ⟨(some 107), none, .val (.load 1 false (.tmp 106))⟩),
    (.late, ⟨(some 108), none, .val (.indexArr 8 1 (.tmp 9) (.const (.int 0)))⟩),
    (.late, ⟨(some 109), none, .val (.load 1 false (.tmp 108))⟩),
    (.late, ⟨(some 110), none, .val (.indexArr 8 1 (.tmp 9) (.const (.int 1)))⟩),
    (.late, ⟨(some 111), none, .val (.load 1 false (.tmp 110))⟩),
    (.late, ⟨(some 112), none, .val (.bin .or T.uint32 (.tmp 109) (.tmp 111))⟩),
    (.late, ⟨(some 113), none, .val (.bin .and T.uint32 (.tmp 107) (.tmp 112))⟩),
    (.late, ⟨(some 114), none, .val (.bin .or T.uint32 (.tmp 105) (.tmp 113))⟩),
    (.hard, ⟨(some 100), none, .call (.const (.func (.func F.digest_rotated) [] [])) [(.tmp 99), (.const (.int 2)), (.const (.int 13)), (.const (.int 22))]⟩),
    (.late, ⟨(some 115), none, .val (.bin .add T.uint32 (.tmp 100) (.tmp 114))⟩),
    (.late, ⟨(some 12), none, .val (.mv (.tmp 115))⟩)] [98, 99, 100, 101, 102, 103, 104, 105, 106, 107, 108, 109, 110, 111, 112, 113, 114, 115])
  (.seq (.draw false [
    (.early, ⟨(some 116), none, .val (.sliceArr 8 1 (.tmp 9) (some (.const (.int 1))) none none)⟩),
    (.early, ⟨(some 117), none, .val (.sliceArr 8 1 (.tmp 9) none (some (.const (.int 7))) none)⟩),
    (.hard, ⟨(some 118), none, .copy 1 (.tmp 116) (.tmp 117)⟩)] [116, 117, 118])
  (.seq (.region [
    ⟨(some 119), none, .val (.indexArr 8 1 (.tmp 9) (.const (.int 4)))⟩,
    ⟨(some 120), none, .val (.load 1 false (.tmp 119))⟩,
    ⟨(some 121), none, .val (.mv (.tmp 11))⟩,
    ⟨(some 122), none, .val (.bin .add T.uint32 (.tmp 120) (.tmp 121))⟩,
    ⟨(some 123), none, .val (.indexArr 8 1 (.tmp 9) (.const (.int 4)))⟩,
    ⟨none, none, .store 1 (.tmp 123) (.tmp 122)⟩] [119, 120, 121, 122, 123])
  (.region [
    ⟨(some 124), none, .val (.mv (.tmp 11))⟩,
    ⟨(some 125), none, .val (.mv (.tmp 12))⟩,
    ⟨(some 126), none, .val (.bin .add T.uint32 (.tmp 124) (.tmp 125))⟩,
    ⟨(some 127), none, .val (.indexArr 8 1 (.tmp 9) (.const (.int 0)))⟩,
    ⟨none, none, .store 1 (.tmp 127) (.tmp 126)⟩] [124, 125, 126, 127])))))))
  (.region [
    ⟨(some 128), none, .val (.bin .add T.int (.tmp 69) (.const (.int 1)))⟩,
    ⟨(some 69), none, .val (.mv (.tmp 128))⟩] [128])))))))
  (.seq (.region [
    ⟨(some 129), none, .val (.mv (.const (.int 0)))⟩] [])
  (.block 6 (.loop (.seq (.region [
    ⟨(some 130), none, .val (.bin .lss T.int (.tmp 129) (.const (.int 8)))⟩] [])
  (.seq (.cond (.tmp 130)
  .skip
  (.exit 6))
  (.seq (.block 7 (.seq (.region [
    ⟨(some 131), none, .val (.mv (.tmp 129))⟩,
    ⟨(some 13), none, .val (.mv (.tmp 131))⟩] [131])
  (.draw false [
    (.early, ⟨(some 132), none, .val (.mv (.tmp 0))⟩),
    (.early, ⟨(some 133), none, .val (.mv (.tmp 13))⟩),
    (.early, ⟨(some 134), none, .val (.nilCheck (.tmp 132))⟩),
    (.early, ⟨(some 135), none, .val (.indexArr 8 1 (.tmp 134) (.tmp 133))⟩),
    (.early, ⟨(some 136), none, .val (.load 1 false (.tmp 135))⟩),
    (.early, ⟨(some 137), none, .val (.mv (.tmp 13))⟩),
    (.early, ⟨(some 138), none, .val (.indexArr 8 1 (.tmp 9) (.tmp 137))⟩),
    (.early, ⟨(some 139), none, .val (.load 1 false (.tmp 138))⟩),
    (.early, ⟨(some 140), none, .val (.bin .add T.uint32 (.tmp 136) (.tmp 139))⟩),
    (.early, ⟨(some 141), none, .val (.nilCheck (.tmp 132))⟩),
    (.early, ⟨(some 142), none, .val (.indexArr 8 1 (.tmp 141) (.tmp 133))⟩),
    (.last, ⟨none, none, .store 1 (.tmp 142) (.tmp 140)⟩)] [132, 133, 134, 135, 136, 137, 138, 139, 140, 141, 142])))
  (.region [
    ⟨(some 143), none, .val (.bin .add T.int (.tmp 129) (.const (.int 1)))⟩,
    ⟨(some 129), none, .val (.mv (.tmp 143))⟩] [143]))))))))))))⟩
theorem H.Pdigest_state_absorb : Has P F.Pdigest_state_absorb C.Pdigest_state_absorb := ⟨Tryd.f55, Tryd.func55, by kernel_rfl, by kernel_rfl⟩

/-- podium/digest.put -/
noncomputable def C.digest_put : MFunc := ⟨23, 2, [],
  (.seq (.region [
    ⟨(some 5), none, .val (.mv (.tmp 0))⟩,
    ⟨(some 6), none, .val (.len (.tmp 5))⟩,
    ⟨(some 7), none, .val (.mv (.const (.int 0)))⟩] [5])
  (.block 0 (.loop (.seq (.region [
    ⟨(some 8), none, .val (.bin .lss T.int (.tmp 7) (.tmp 6))⟩] [])
  (.seq (.cond (.tmp 8)
  .skip
  (.exit 0))
  (.seq (.block 1 (.seq (.region [
    ⟨(some 9), none, .val (.mv (.tmp 7))⟩,
    ⟨(some 4), none, .val (.mv (.tmp 9))⟩] [9])
  (.region [
    ⟨(some 10), none, .val (.mv (.tmp 0))⟩,
    ⟨(some 11), none, .val (.mv (.tmp 0))⟩,
    ⟨(some 12), none, .val (.len (.tmp 11))⟩,
    ⟨(some 13), none, .val (.bin .sub T.int (.tmp 12) (.const (.int 1)))⟩,
    ⟨(some 14), none, .val (.mv (.tmp 4))⟩,
    ⟨(some 15), none, .val (.bin .sub T.int (.tmp 13) (.tmp 14))⟩,
    ⟨(some 16), none, .val (.mv (.tmp 1))⟩,
    ⟨(some 17), none, .val (.mv (.tmp 4))⟩,
    ⟨(some 18), none, .val (.bin .mul T.int (.const (.int 8)) (.tmp 17))⟩,
    ⟨(some 19), none, .val (.bin .shr T.uint64 (.tmp 16) (.tmp 18))⟩,
    ⟨(some 20), none, .val (.toInt .u8 (.tmp 19))⟩,
    ⟨(some 21), none, .val (.indexAddr 1 (.tmp 10) (.tmp 15))⟩,
    ⟨none, none, .store 1 (.tmp 21) (.tmp 20)⟩] [10, 11, 12, 13, 14, 15, 16, 17, 18, 19, 20, 21])))
  (.region [
    ⟨(some 22), none, .val (.bin .add T.int (.tmp 7) (.const (.int 1)))⟩,
    ⟨(some 7), none, .val (.mv (.tmp 22))⟩] [22])))))))⟩
theorem H.digest_put : Has P F.digest_put C.digest_put := ⟨Tryd.f56, Tryd.func56, by kernel_rfl, by kernel_rfl⟩

/-- slices.Grow[[]byte,byte] -/
noncomputable def C.slices_Grow__Lbyte_byte : MFunc := ⟨27, 2, [.tmp 4],
  (.seq (.region [
    ⟨(some 4), none, .val (.mv (.const .nil))⟩] [])
  (.seq (.seq (.region [
    ⟨(some 5), none, .val (.mv (.tmp 1))⟩,
    ⟨(some 6), none, .val (.bin .lss T.int (.tmp 5) (.const (.int 0)))⟩] [5])
  (.cond (.tmp 6)
  (.region [
    ⟨(some 7), none, .val (.mkIface T.string (.const (.val (.string ⟨#[99, 97, 110, 110, 111, 116, 32, 98, 101, 32, 110, 101, 103, 97, 116, 105, 118, 101]⟩))))⟩,
    ⟨none, none, .panic (.tmp 7)⟩] [7])
  .skip))
  (.seq (.seq (.region [
    ⟨(some 8), none, .val (.mv (.tmp 1))⟩,
    ⟨(some 9), none, .val (.mv (.tmp 0))⟩,
    ⟨(some 10), none, .val (.cap (.tmp 9))⟩,
    ⟨(some 11), none, .val (.mv (.tmp 0))⟩,
    ⟨(some 12), none, .val (.len (.tmp 11))⟩,
    ⟨(some 13), none, .val (.bin .sub T.int (.tmp 10) (.tmp 12))⟩,
    ⟨(some 14), none, .val (.bin .sub T.int (.tmp 8) (.tmp 13))⟩,
    ⟨(some 1), none, .val (.mv (.tmp 14))⟩] [8, 9, 10, 11, 12, 13, 14])
  (.seq (.region [
    ⟨(some 15), none, .val (.mv (.tmp 1))⟩,
    ⟨(some 16), none, .val (.bin .gtr T.int (.tmp 15) (.const (.int 0)))⟩] [15])
  (.cond (.tmp 16)
  (.region [
    ⟨(some 17), none, .val (.mv (.tmp 0))⟩,
    ⟨(some 18), none, .val (.mv (.tmp 0))⟩,
    ⟨(some 19), none, .val (.cap (.tmp 18))⟩,
    ⟨(some 20), none, .val (.slice 1 (.tmp 17) none (some (.tmp 19)) none)⟩,
    ⟨(some 21), none, .val (.mv (.tmp 1))⟩,
    ⟨(some 22), none, .appendZ T.uint8 1 1 [(.val (.int .u8 0))] (.tmp 20) (.tmp 21)⟩,
    ⟨(some 23), none, .val (.mv (.tmp 0))⟩,
    ⟨(some 24), none, .val (.len (.tmp 23))⟩,
    ⟨(some 25), none, .val (.slice 1 (.tmp 22) none (some (.tmp 24)) none)⟩,
    ⟨(some 0), none, .val (.mv (.tmp 25))⟩] [17, 18, 19, 20, 21, 22, 23, 24, 25])
  .skip)))
  (.seq (.region [
    ⟨(some 26), none, .val (.mv (.tmp 0))⟩,
    ⟨(some 4), none, .val (.mv (.tmp 26))⟩] [26])
  .ret))))⟩
theorem H.slices_Grow__Lbyte_byte : Has P F.slices_Grow__Lbyte_byte C.slices_Grow__Lbyte_byte := ⟨Tryd.f57, Tryd.func57, by kernel_rfl, by kernel_rfl⟩

/-- slices.AppendSeq[[]podium/api.Share,podium/api.Share] -/
noncomputable def C.slices_AppendSeq__LapiShare_apiShare : MFunc := ⟨13, 2, [.tmp 4],
  (.seq (.region [
    ⟨(some 2), none, .box T.LapiShare (.tmp 0)⟩,
    ⟨(some 4), none, .val (.mv (.const .nil))⟩] [])
  (.seq (.seq (.region [
    ⟨(some 6), none, .val (.mv (.tmp 1))⟩] [])
  (.block 0 (.rangeFunc (.tmp 6) [7] (.region [
    ⟨(some 5), none, .alloc T.apiShare [(.int 0), (.int 0)]⟩,
    ⟨none, none, .store 2 (.tmp 5) (.tmp 7)⟩] [])
  (.block 1 (.region [
    ⟨(some 8), none, .val (.load 1 false (.tmp 2))⟩,
    ⟨(some 9), none, .val (.load 2 true (.tmp 5))⟩,
    ⟨(some 10), none, .val (.buildSlice T.apiShare 1 [(.int 0), (.int 0)] [(0, 2, (.tmp 9))])⟩,
    ⟨(some 11), none, .append T.apiShare 16 2 (.tmp 8) (.tmp 10)⟩,
    ⟨none, none, .store 1 (.tmp 2) (.tmp 11)⟩] [8, 9, 10, 11])))))
  (.seq (.region [
    ⟨(some 12), none, .val (.load 1 false (.tmp 2))⟩,
    ⟨(some 4), none, .val (.mv (.tmp 12))⟩] [12])
  .ret)))⟩
theorem H.slices_AppendSeq__LapiShare_apiShare : Has P F.slices_AppendSeq__LapiShare_apiShare C.slices_AppendSeq__LapiShare_apiShare := ⟨Tryd.f58, Tryd.func58, by kernel_rfl, by kernel_rfl⟩

/-- podium/shares.values$1 -/
noncomputable def C.shares_values_1 : MFunc := ⟨19, 3, [],
  (.seq (.region [
    ⟨(some 4), none, .val (.mv (.const (.int 1)))⟩] [])
  (.block 0 (.loop (.seq (.seq (.region [
    ⟨(some 5), none, .val (.mv (.tmp 4))⟩,
    ⟨(some 6), none, .val (.load 1 false (.tmp 1))⟩,
    ⟨(some 7), none, .val (.bin .leq T.int (.tmp 5) (.tmp 6))⟩,
    ⟨(some 8), none, .val (.mv (.tmp 7))⟩,
    ⟨(some 9), (some (8, true)), .val (.mv (.tmp 0))⟩,
    ⟨(some 10), (some (8, true)), .val (.mv (.tmp 4))⟩,
    ⟨(some 11), (some (8, true)), .val (.load 1 false (.tmp 2))⟩,
    ⟨(some 12), (some (8, true)), .val (.mv (.tmp 4))⟩,
    ⟨(some 13), (some (8, true)), .call (.const (.func (.func F.field_Value) [] [])) [(.tmp 11), (.tmp 12)]⟩,
    ⟨(some 14), (some (8, true)), .val (.build [(.int 0), (.int 0)] [(0, 1, (.tmp 10)), (1, 1, (.tmp 13))])⟩,
    ⟨(some 15), (some (8, true)), .call (.tmp 9) [(.tmp 14)]⟩,
    ⟨(some 16), none, .val (.pick (.tmp 8) (.tmp 15) (.const (.bool false)))⟩] [5, 6, 7, 8, 9, 10, 11, 12, 13, 14, 15])
  (.cond (.tmp 16)
  .skip
  (.exit 0)))
  (.seq (.block 1 .skip)
  (.region [
    ⟨(some 17), none, .val (.mv (.tmp 4))⟩,
    ⟨(some 18), none, .val (.bin .add T.int (.tmp 17) (.const (.int 1)))⟩,
    ⟨(some 4), none, .val (.mv (.tmp 18))⟩] [17, 18]))))))⟩
theorem H.shares_values_1 : Has P F.shares_values_1 C.shares_values_1 := ⟨Tryd.f59, Tryd.func59, by kernel_rfl, by kernel_rfl⟩

/-- podium/field.Value -/
noncomputable def C.field_Value : MFunc := ⟨25, 2, [.tmp 4],
  (.seq (.region [
    ⟨(some 4), none, .val (.mv (.const (.int 0)))⟩] [])
  (.seq (.region [
    ⟨(some 5), none, .val (.mv (.const (.int 1)))⟩] [])
  (.seq (.seq (.region [
    ⟨(some 8), none, .val (.mv (.tmp 0))⟩,
    ⟨(some 9), none, .val (.len (.tmp 8))⟩,
    ⟨(some 10), none, .val (.mv (.const (.int 0)))⟩] [])
  (.block 0 (.loop (.seq (.region [
    ⟨(some 11), none, .val (.bin .lss T.int (.tmp 10) (.tmp 9))⟩] [])
  (.seq (.cond (.tmp 11)
  .skip
  (.exit 0))
  (.seq (.block 1 (.seq (.region [
    ⟨(some 12), none, .val (.indexAddr 1 (.tmp 8) (.tmp 10))⟩,
    ⟨(some 13), none, .val (.load 1 false (.tmp 12))⟩,
    ⟨(some 7), none, .val (.mv (.tmp 13))⟩] [12, 13])
  (.seq (.region [
    ⟨(some 14), none, .val (.mv (.tmp 4))⟩,
    ⟨(some 15), none, .val (.mv (.tmp 7))⟩,
    ⟨(some 16), none, .val (.mv (.tmp 5))⟩,
    ⟨(some 17), none, .call (.const (.func (.func F.field_Mul) [] [])) [(.tmp 15), (.tmp 16)]⟩,
    ⟨(some 18), none, .val (.buildSlice T.int 2 [(.int 0), (.int 0)] [(0, 1, (.tmp 14)), (1, 1, (.tmp 17))])⟩,
    ⟨(some 19), none, .call (.const (.func (.func F.field_sum) [] [])) [(.tmp 18)]⟩,
    ⟨(some 4), none, .val (.mv (.tmp 19))⟩] [14, 15, 16, 17, 18, 19])
  (.region [
    ⟨(some 20), none, .val (.mv (.tmp 5))⟩,
    ⟨(some 21), none, .val (.mv (.tmp 1))⟩,
    ⟨(some 22), none, .call (.const (.func (.func F.field_Mul) [] [])) [(.tmp 20), (.tmp 21)]⟩,
    ⟨(some 5), none, .val (.mv (.tmp 22))⟩] [20, 21, 22]))))
  (.region [
    ⟨(some 23), none, .val (.bin .add T.int (.tmp 10) (.const (.int 1)))⟩,
    ⟨(some 10), none, .val (.mv (.tmp 23))⟩] [23])))))))
  (.seq (.region [
    ⟨(some 24), none, .val (.mv (.tmp 4))⟩,
    ⟨(some 4), none, .val (.mv (.tmp 24))⟩] [24])
  .ret))))⟩
theorem H.field_Value : Has P F.field_Value C.field_Value := ⟨Tryd.f60, Tryd.func60, by kernel_rfl, by kernel_rfl⟩

/-- slices.IndexFunc[[]int,int] -/
noncomputable def C.slices_IndexFunc__Lint_int : MFunc := ⟨19, 2, [.tmp 4],
  (.seq (.region [
    ⟨(some 4), none, .val (.mv (.const (.int 0)))⟩] [])
  (.seq (.seq (.region [
    ⟨(some 6), none, .val (.mv (.tmp 0))⟩,
    ⟨(some 7), none, .val (.len (.tmp 6))⟩,
    ⟨(some 8), none, .val (.mv (.const (.int 0)))⟩] [6])
  (.block 0 (.loop (.seq (.region [
    ⟨(some 9), none, .val (.bin .lss T.int (.tmp 8) (.tmp 7))⟩] [])
  (.seq (.cond (.tmp 9)
  .skip
  (.exit 0))
  (.seq (.block 1 (.seq (.region [
    ⟨(some 10), none, .val (.mv (.tmp 8))⟩,
    ⟨(some 5), none, .val (.mv (.tmp 10))⟩] [10])
  (.seq (.region [
    ⟨(some 11), none, .val (.mv (.tmp 1))⟩,
    ⟨(some 12), none, .val (.mv (.tmp 0))⟩,
    ⟨(some 13), none, .val (.mv (.tmp 5))⟩,
    ⟨(some 14), none, .val (.indexAddr 1 (.tmp 12) (.tmp 13))⟩,
    ⟨(some 15), none, .val (.load 1 false (.tmp 14))⟩,
    ⟨(some 16), none, .call (.tmp 11) [(.tmp 15)]⟩] [11, 12, 13, 14, 15])
  (.cond (.tmp 16)
  (.seq (.region [
    ⟨(some 17), none, .val (.mv (.tmp 5))⟩,
    ⟨(some 4), none, .val (.mv (.tmp 17))⟩] [17])
  .ret)
  .skip))))
  (.region [
    ⟨(some 18), none, .val (.bin .add T.int (.tmp 8) (.const (.int 1)))⟩,
    ⟨(some 8), none, .val (.mv (.tmp 18))⟩] [18])))))))
  (.seq (.region [
    ⟨(some 4), none, .val (.mv (.const (.int (-1))))⟩] [])
  .ret)))⟩
theorem H.slices_IndexFunc__Lint_int : Has P F.slices_IndexFunc__Lint_int C.slices_IndexFunc__Lint_int := ⟨Tryd.f61, Tryd.func61, by kernel_rfl, by kernel_rfl⟩

/-- podium/podiumref02.padded -/
noncomputable def C.podiumref02_padded : MFunc := ⟨35, 1, [.tmp 2],
  (.seq (.region [
    ⟨(some 2), none, .val (.mv (.const .nil))⟩] [])
  (.seq (.region [
    ⟨(some 6), none, .val (.buildSlice T.uint8 0 [] [])⟩,
    ⟨(some 7), none, .val (.mv (.tmp 0))⟩,
    ⟨(some 8), none, .append T.uint8 1 1 (.tmp 6) (.tmp 7)⟩,
    ⟨(some 9), none, .val (.buildSlice T.uint8 1 [(.val (.int .u8 0))] [(0, 1, (.const (.val (.int .u8 128))))])⟩,
    ⟨(some 10), none, .append T.uint8 1 1 (.tmp 8) (.tmp 9)⟩,
    ⟨(some 3), none, .val (.mv (.tmp 10))⟩] [6, 7, 8, 9, 10])
  (.seq (.block 0 (.loop (.seq (.seq (.region [
    ⟨(some 11), none, .val (.mv (.tmp 3))⟩,
    ⟨(some 12), none, .val (.len (.tmp 11))⟩,
    ⟨(some 13), none, .val (.bin .rem T.int (.tmp 12) (.const (.int 64)))⟩,
    ⟨(some 14), none, .val (.bin .neq T.int (.tmp 13) (.const (.int 56)))⟩] [11, 12, 13])
  (.cond (.tmp 14)
  .skip
  (.exit 0)))
  (.block 1 (.region [
    ⟨(some 15), none, .val (.mv (.tmp 3))⟩,
    ⟨(some 16), none, .val (.buildSlice T.uint8 1 [(.val (.int .u8 0))] [(0, 1, (.const (.val (.int .u8 0))))])⟩,
    ⟨(some 17), none, .append T.uint8 1 1 (.tmp 15) (.tmp 16)⟩,
    ⟨(some 3), none, .val (.mv (.tmp 17))⟩] [15, 16, 17])))))
  (.seq (.region [
    ⟨(some 18), none, .val (.mv (.tmp 0))⟩,
    ⟨(some 19), none, .val (.len (.tmp 18))⟩,
    ⟨(some 20), none, .val (.toInt .u64 (.tmp 19))⟩,
    ⟨(some 21), none, .val (.bin .mul T.uint64 (.tmp 20) (.const (.val (.int .u64 8))))⟩,
    ⟨(some 4), none, .val (.mv (.tmp 21))⟩] [18, 19, 20, 21])
  (.seq (.seq (.region [
    ⟨(some 5), none, .val (.mv (.const (.int 7)))⟩] [])
  (.block 2 (.loop (.seq (.seq (.region [
    ⟨(some 22), none, .val (.mv (.tmp 5))⟩,
    ⟨(some 23), none, .val (.bin .geq T.int (.tmp 22) (.const (.int 0)))⟩] [22])
  (.cond (.tmp 23)
  .skip
  (.exit 2)))
  (.seq (.block 3 (.region [
    ⟨(some 26), none, .val (.mv (.tmp 3))⟩,
    ⟨(some 27), none, .val (.mv (.tmp 4))⟩,
    ⟨(some 28), none, .val (.mv (.tmp 5))⟩,
    ⟨(some 29), none, .val (.bin .mul T.int (.const (.int 8)) (.tmp 28))⟩,
    ⟨(some 30), none, .val (.bin .shr T.uint64 (.tmp 27) (.tmp 29))⟩,
    ⟨(some 31), none, .val (.toInt .u8 (.tmp 30))⟩,
    ⟨(some 32), none, .val (.buildSlice T.uint8 1 [(.val (.int .u8 0))] [(0, 1, (.tmp 31))])⟩,
    ⟨(some 33), none, .append T.uint8 1 1 (.tmp 26) (.tmp 32)⟩,
    ⟨(some 3), none, .val (.mv (.tmp 33))⟩] [26, 27, 28, 29, 30, 31, 32, 33]))
  (.region [
    ⟨(some 24), none, .val (.mv (.tmp 5))⟩,
    ⟨(some 25), none, .val (.bin .sub T.int (.tmp 24) (.const (.int 1)))⟩,
    ⟨(some 5), none, .val (.mv (.tmp 25))⟩] [24, 25]))))))
  (.seq (.region [
    ⟨(some 34), none, .val (.mv (.tmp 3))⟩,
    ⟨(some 2), none, .val (.mv (.tmp 34))⟩] [34])
  .ret))))))⟩
theorem H.podiumref02_padded : Has P F.podiumref02_padded C.podiumref02_padded := ⟨Tryd.f62, Tryd.func62, by kernel_rfl, by kernel_rfl⟩

/-- podium/podiumref02.block -/
noncomputable def C.podiumref02_block : MFunc := ⟨191, 2, [.cell 4 8 true],
  (.seq (.region [
    ⟨(some 2), none, .box T.t8uint32 (.tmp 0)⟩,
    ⟨(some 4), none, .alloc T.t8uint32 [(.val (.int .u32 0)), (.val (.int .u32 0)), (.val (.int .u32 0)), (.val (.int .u32 0)), (.val (.int .u32 0)), (.val (.int .u32 0)), (.val (.int .u32 0)), (.val (.int .u32 0))]⟩] [])
  (.seq (.region [
    ⟨(some 22), none, .val (.build ((.val (.int .u32 0)) :: (.val (.int .u32 0)) :: (.val (.int .u32 0)) :: (.val (.int .u32 0)) :: (.val (.int .u32 0)) :: (.val (.int .u32 0)) :: (.val (.int .u32 0)) :: (.val (.int .u32 0)) :: (.val (.int .u32 0)) :: (.val (.int .u32 0)) :: (.val (.int .u32 0)) :: (.val (.int .u32 0)) :: (.val (.int .u32 0)) :: (.val (.int .u32 0)) :: (.val (.int .u32 0)) :: (.val (.int .u32 0)) :: (.val (.int .u32 0)) :: (.val (.int .u32 0)) :: (.val (.int .u32 0)) :: (.val (.int .u32 0)) :: (.val (.int .u32 0)) :: (.val (.int .u32 0)) :: (.val (.int .u32 0)) :: (.val (.int .u32 0)) :: (.val (.int .u32 0)) :: (.val (.int .u32 0)) :: (.val (.int .u32 0)) :: (.val (.int .u32 0)) :: (.val (.int .u32 0)) :: (.val (.int .u32 0)) :: (.val (.int .u32 0)) :: (.val (.int .u32 0)) :: (.val (.int .u32 0)) :: (.val (.int .u32 0)) :: (.val (.int .u32 0)) :: (.val (.int .u32 0)) :: (.val (.int .u32 0)) :: (.val (.int .u32 0)) :: (.val (.int .u32 0)) :: (.val (.int .u32 0)) :: (.val (.int .u32 0)) :: (.val (.int .u32 0)) :: (.val (.int .u32 0)) :: (.val (.int .u32 0)) :: (.val (.int .u32 0)) :: (.val (.int .u32 0)) :: (.val (.int .u32 0)) :: (.val (.int .u32 0)) :: (.val (.int .u32 0)) :: (.val (.int .u32 0)) :: (.val (.int .u32 0)) :: (.val (.int .u32 0)) :: (.val (.int .u32 0)) :: (.val (.int .u32 0)) :: (.val (.int .u32 0)) :: (.val (.int .u32 0)) :: (.val (.int .u32 0)) :: (.val (.int .u32 0)) :: (.val (.int .u32 0)) :: (.val (.int .u32 0)) :: (.val (.int .u32 0)) :: (.val (.int .u32 0)) :: (.val (.int .u32 0)) :: (.val (.int .u32 0)) :: []) [])⟩,
    ⟨(some 5), none, .alloc T.t64uint32 ((.val (.int .u32 0)) :: (.val (.int .u32 0)) :: (.val (.int .u32 0)) :: (.val (.int .u32 0)) :: (.val (.int .u32 0)) :: (.val (.int .u32 0)) :: (.val (.int .u32 0)) :: (.val (.int .u32 0)) :: (.val (.int .u32 0)) :: (.val (.int .u32 0)) :: (.val (.int .u32 0)) :: (.val (.int .u32 0)) :: (.val (.int .u32 0)) :: (.val (.int .u32 0)) :: (.val (.int .u32 0)) :: (.val (.int .u32 0)) :: (.val (.int .u32 0)) :: (.val (.int .u32 0)) :: (.val (.int .u32 0)) :: (.val (.int .u32 0)) :: (.val (.int .u32 0)) :: (.val (.int .u32 0)) :: (.val (.int .u32 0)) :: (.val (.int .u32 0)) :: (.val (.int .u32 0)) :: (.val (.int .u32 0)) :: (.val (.int .u32 0)) :: (.val (.int .u32 0)) :: (.val (.int .u32 0)) :: (.val (.int .u32 0)) :: (.val (.int .u32 0)) :: (.val (.int .u32 0)) :: (.val (.int .u32 0)) :: (.val (.int .u32 0)) :: (.val (.int .u32 0)) :: (.val (.int .u32 0)) :: (.val (.int .u32 0)) :: (.val (.int .u32 0)) :: (.val (.int .u32 0)) :: (.val (.int .u32 0)) :: (.val (.int .u32 0)) :: (.val (.int .u32 0)) :: (.val (.int .u32 0)) :: (.val (.int .u32 0)) :: (.val (.int .u32 0)) :: (.val (.int .u32 0)) :: (.val (.int .u32 0)) :: (.val (.int .u32 0)) :: (.val (.int .u32 0)) :: (.val (.int .u32 0)) :: (.val (.int .u32 0)) :: (.val (.int .u32 0)) :: (.val (.int .u32 0)) :: (.val (.int .u32 0)) :: (.val (.int .u32 0)) :: (.val (.int .u32 0)) :: (.val (.int .u32 0)) :: (.val (.int .u32 0)) :: (.val (.int .u32 0)) :: (.val (.int .u32 0)) :: (.val (.int .u32 0)) :: (.val (.int .u32 0)) :: (.val (.int .u32 0)) :: (.val (.int .u32 0)) :: [])⟩,
    ⟨none, none, .store 64 (.tmp 5) (.tmp 22)⟩] [22])
  (.seq (.seq (.region [
    ⟨(some 6), none, .val (.mv (.const (.int 0)))⟩] [])
  (.block 0 (.loop (.seq (.seq (.region [
    ⟨(some 23), none, .val (.mv (.tmp 6))⟩,
    ⟨(some 24), none, .val (.bin .lss T.int (.tmp 23) (.const (.int 16)))⟩] [23])
  (.cond (.tmp 24)
  .skip
  (.exit 0)))
  (.seq (.block 1 (.region [
    ⟨(some 27), none, .val (.mv (.tmp 6))⟩,
    ⟨(some 28), none, .val (.mv (.tmp 1))⟩,
    ⟨(some 29), none, .val (.mv (.tmp 6))⟩,
    ⟨(some 30), none, .val (.bin .mul T.int (.const (.int 4)) (.tmp 29))⟩,
    ⟨(some 31), none, .val (.mv (.tmp 6))⟩,
    ⟨(some 32), none, .val (.bin .mul T.int (.const (.int 4)) (.tmp 31))⟩,
    ⟨(some 33), none, .val (.bin .add T.int (.tmp 32) (.const (.int 4)))⟩,
    ⟨(some 34), none, .val (.slice 1 (.tmp 28) (some (.tmp 30)) (some (.tmp 33)) none)⟩,
    ⟨(some 35), none, .call (.const (.func (.func F.podiumref02_word) [] [])) [(.tmp 34)]⟩,
    ⟨(some 36), none, .val (.indexArr 64 1 (.tmp 5) (.tmp 27))⟩,
    ⟨none, none, .store 1 (.tmp 36) (.tmp 35)⟩] [27, 28, 29, 30, 31, 32, 33, 34, 35, 36]))
  (.region [
    ⟨(some 25), none, .val (.mv (.tmp 6))⟩,
    ⟨(some 26), none, .val (.bin .add T.int (.tmp 25) (.const (.int 1)))⟩,
    ⟨(some 6), none, .val (.mv (.tmp 26))⟩] [25, 26]))))))
  (.seq (.seq (.region [
    ⟨(some 7), none, .val (.mv (.const (.int 16)))⟩] [])
  (.block 2 (.loop (.seq (.seq (.region [
    ⟨(some 37), none, .val (.mv (.tmp 7))⟩,
    ⟨(some 38), none, .val (.bin .lss T.int (.tmp 37) (.const (.int 64)))⟩] [37])
  (.cond (.tmp 38)
  .skip
  (.exit 2)))
  (.seq (.block 3 (.seq (.region [
    ⟨(some 41), none, .val (.mv (.tmp 7))⟩,
    ⟨(some 42), none, .val (.bin .sub T.int (.tmp 41) (.const (.int 15)))⟩,
    ⟨(some 43), none, .val (.indexArr 64 1 (.tmp 5) (.tmp 42))⟩,
    ⟨(some 44), none, .val (.load 1 false (.tmp 43))⟩,
    ⟨(some 8), none, .val (.mv (.tmp 44))⟩] [41, 42, 43, 44])
  (.seq (.region [
    ⟨(some 45), none, .val (.mv (.tmp 7))⟩,
    ⟨(some 46), none, .val (.bin .sub T.int (.tmp 45) (.const (.int 2)))⟩,
    ⟨(some 47), none, .val (.indexArr 64 1 (.tmp 5) (.tmp 46))⟩,
    ⟨(some 48), none, .val (.load 1 false (.tmp 47))⟩,
    ⟨(some 9), none, .val (.mv (.tmp 48))⟩] [45, 46, 47, 48])
  (.draw true [
    (.late, ⟨(some 49), none, .val (.mv (.tmp 7))⟩),
    (.late, ⟨(some 50), none, .val (.mv (.tmp 7))⟩),
    (.late, ⟨(some 51), none, .val (.bin .sub T.int (.tmp 50) (.const (.int 16)))⟩),
    (.late, ⟨(some 52), none, .val (.indexArr 64 1 (.tmp 5) (.tmp 51))⟩),
    (.late, ⟨(some 53), none, .val (.load 1 false (.tmp 52))⟩),
    (.early, ⟨(some 54), none, .val (.mv (.tmp 8))⟩),
    (.late, ⟨(some 56), none, .val (.mv (.tmp 8))⟩),
    (.late, ⟨(some 59), none, .val (.mv (.tmp 8))⟩),
    (.late, ⟨(some 60), none, .val (.bin .shr T.uint32 (.tmp 59) (.const (.val (.int .u64 3))))⟩),
    (.late, ⟨(some 63), none, .val (.mv (.tmp 7))⟩),
    (.late, ⟨(some 64), none, .val (.bin .sub T.int (.tmp 63) (.const (.int 7)))⟩),
    (.late, ⟨(some 65), none, .val (.indexArr 64 1 (.tmp 5) (.tmp 64))⟩),
    (.late, ⟨(some 66), none, .val (.load 1 false (.tmp 65))⟩),
    (.late, ⟨(some 68), none, .val (.mv (.tmp 9))⟩),
    (.late, ⟨(some 70), none, .val (.mv (.tmp 9))⟩),
    (.late, ⟨(some 73), none, .val (.mv (.tmp 9))⟩),
    (.late, ⟨(some 74), none, .val (.bin .shr T.uint32 (.tmp 73) (.const (.val (.int .u64 10))))⟩),
    (.hard, ⟨(some 55), none, .call (.const (.func (.func F.podiumref02_ror) [] [])) [(.tmp 54), (.const (.int 7))]⟩),
    (.hard, ⟨(some 57), none, .call (.const (.func (.func F.podiumref02_ror) [] [])) [(.tmp 56), (.const (.int 18))]⟩),
    (.late, ⟨(some 58), none, .val (.bin .xor T.uint32 (.tmp 55) (.tmp 57))⟩),
    (.late, ⟨(some 61), none, .val (.bin .xor T.uint32 (.tmp 58) (.tmp 60))⟩),
    (.late, ⟨(some 62), none, .val (.bin .add T.uint32 (.tmp 53) (.tmp 61))⟩),
    (.late, ⟨(some 67), none, .val (.bin .add T.uint32 (.tmp 62) (.tmp 66))⟩),
    (.hard, ⟨(some 69), none, .call (.const (.func (.func F.podiumref02_ror) [] [])) [(.tmp 68), (.const (.int 17))]⟩),
    (.hard, ⟨(some 71), none, .call (.const (.func (.func F.podiumref02_ror) [] [])) [(.tmp 70), (.const (.int 19))]⟩),
    (.late, ⟨(some 72), none, .val (.bin .xor T.uint32 (.tmp 69) (.tmp 71))⟩),
    (.late, ⟨(some 75), none, .val (.bin .xor T.uint32 (.tmp 72) (.tmp 74))⟩),
    (.late, ⟨(some 76), none, .val (.bin .add T.uint32 (.tmp 67) (.tmp 75))⟩),
    (.late, ⟨(some 77), none, .val (.indexArr 64 1 (.tmp 5) (.tmp 49))⟩),
    (.last, ⟨none, none, .store 1 (.tmp 77) (.tmp 76)⟩)] [49, 50, 51, 52, 53, 54, 55, 56, 57, 58, 59, 60, 61, 62, 63, 64, 65, 66, 67, 68, 69, 70, 71, 72, 73, 74, 75, 76, 77]))))
  (.region [
    ⟨(some 39), none, .val (.mv (.tmp 7))⟩,
    ⟨(some 40), none, .val (.bin .add T.int (.tmp 39) (.const (.int 1)))⟩,
    ⟨(some 7), none, .val (.mv (.tmp 40))⟩] [39, 40]))))))
  (.seq (.region [
    ⟨(some 78), none, .call (.const (.func (.func F.podiumref02_numbers) [] [])) []⟩,
    ⟨(some 10), none, .alloc T.t64uint32 ((.val (.int .u32 0)) :: (.val (.int .u32 0)) :: (.val (.int .u32 0)) :: (.val (.int .u32 0)) :: (.val (.int .u32 0)) :: (.val (.int .u32 0)) :: (.val (.int .u32 0)) :: (.val (.int .u32 0)) :: (.val (.int .u32 0)) :: (.val (.int .u32 0)) :: (.val (.int .u32 0)) :: (.val (.int .u32 0)) :: (.val (.int .u32 0)) :: (.val (.int .u32 0)) :: (.val (.int .u32 0)) :: (.val (.int .u32 0)) :: (.val (.int .u32 0)) :: (.val (.int .u32 0)) :: (.val (.int .u32 0)) :: (.val (.int .u32 0)) :: (.val (.int .u32 0)) :: (.val (.int .u32 0)) :: (.val (.int .u32 0)) :: (.val (.int .u32 0)) :: (.val (.int .u32 0)) :: (.val (.int .u32 0)) :: (.val (.int .u32 0)) :: (.val (.int .u32 0)) :: (.val (.int .u32 0)) :: (.val (.int .u32 0)) :: (.val (.int .u32 0)) :: (.val (.int .u32 0)) :: (.val (.int .u32 0)) :: (.val (.int .u32 0)) :: (.val (.int .u32 0)) :: (.val (.int .u32 0)) :: (.val (.int .u32 0)) :: (.val (.int .u32 0)) :: (.val (.int .u32 0)) :: (.val (.int .u32 0)) :: (.val (.int .u32 0)) :: (.val (.int .u32 0)) :: (.val (.int .u32 0)) :: (.val (.int .u32 0)) :: (.val (.int .u32 0)) :: (.val (.int .u32 0)) :: (.val (.int .u32 0)) :: (.val (.int .u32 0)) :: (.val (.int .u32 0)) :: (.val (.int .u32 0)) :: (.val (.int .u32 0)) :: (.val (.int .u32 0)) :: (.val (.int .u32 0)) :: (.val (.int .u32 0)) :: (.val (.int .u32 0)) :: (.val (.int .u32 0)) :: (.val (.int .u32 0)) :: (.val (.int .u32 0)) :: (.val (.int .u32 0)) :: (.val (.int .u32 0)) :: (.val (.int .u32 0)) :: (.val (.int .u32 0)) :: (.val (.int .u32 0)) :: (.val (.int .u32 0)) :: [])⟩,
    ⟨none, none, .store 64 (.tmp 10) (.tmp 78)⟩] [78])
  (.seq (.draw false [
    (.early, ⟨(some 79), none, .val (.indexArr 8 1 (.tmp 2) (.const (.int 0)))⟩),
    (.early, ⟨(some 80), none, .val (.load 1 false (.tmp 79))⟩),
    (.early, ⟨(some 81), none, .val (.indexArr 8 1 (.tmp 2) (.const (.int 1)))⟩),
    (.early, ⟨(some 82), none, .val (.load 1 false (.tmp 81))⟩),
    (.early, ⟨(some 83), none, .val (.indexArr 8 1 (.tmp 2) (.const (.int 2)))⟩),
    (.early, ⟨(some 84), none, .val (.load 1 false (.tmp 83))⟩),
    (.early, ⟨(some 85), none, .val (.indexArr 8 1 (.tmp 2) (.const (.int 3)))⟩),
    (.early, ⟨(some 86), none, .val (.load 1 false (.tmp 85))⟩),
    (.early, ⟨(some 87), none, .val (.indexArr 8 1 (.tmp 2) (.const (.int 4)))⟩),
    (.early, ⟨(some 88), none, .val (.load 1 false (.tmp 87))⟩),
    (.early, ⟨(some 89), none, .val (.indexArr 8 1 (.tmp 2) (.const (.int 5)))⟩),
    (.early, ⟨(some 90), none, .val (.load 1 false (.tmp 89))⟩),
    (.early, ⟨(some 91), none, .val (.indexArr 8 1 (.tmp 2) (.const (.int 6)))⟩),
    (.early, ⟨(some 92), none, .val (.load 1 false (.tmp 91))⟩),
    (.early, ⟨(some 93), none, .val (.indexArr 8 1 (.tmp 2) (.const (.int 7)))⟩),
    (.early, ⟨(some 94), none, .val (.load 1 false (.tmp 93))⟩),
    (.early, ⟨(some 11), none, .val (.mv (.tmp 80))⟩),
    (.early, ⟨(some 12), none, .val (.mv (.tmp 82))⟩),
    (.early, ⟨(some 13), none, .val (.mv (.tmp 84))⟩),
    (.early, ⟨(some 14), none, .val (.mv (.tmp 86))⟩),
    (.early, ⟨(some 15), none, .val (.mv (.tmp 88))⟩),
    (.early, ⟨(some 16), none, .val (.mv (.tmp 90))⟩),
    (.early, ⟨(some 17), none, .val (.mv (.tmp 92))⟩),
    (.early, ⟨(some 18), none, .val (.mv (.tmp 94))⟩)] [79, 80, 81, 82, 83, 84, 85, 86, 87, 88, 89, 90, 91, 92, 93, 94])
  (.seq (.seq (.region [
    ⟨(some 19), none, .val (.mv (.const (.int 0)))⟩] [])
  (.block 4 (.loop (.seq (.seq (.region [
    ⟨(some 95), none, .val (.mv (.tmp 19))⟩,
    ⟨(some 96), none, .val (.bin .lss T.int (.tmp 95) (.const (.int 64)))⟩] [95])
  (.cond (.tmp 96)
  .skip
  (.exit 4)))
  (.seq (.block 5 (.seq (.draw true [
    (.late, ⟨(some 99), none, .val (.mv (.tmp 18))⟩),
    (.early, ⟨(some 100), none, .val (.mv (.tmp 15))⟩),
    (.late, ⟨(some 102), none, .val (.mv (.tmp 15))⟩),
    (.late, ⟨(some 105), none, .val (.mv (.tmp 15))⟩),
    (.late, ⟨(some 109), none, .val (.mv (.tmp 15))⟩),
    (.late, ⟨(some 110), none, .val (.mv (.tmp 16))⟩),
    (.late, ⟨(some 111), none, .val (.bin .and T.uint32 (.tmp 109) (.tmp 110))⟩),
    (.late, ⟨(some 112), none, .val (.mv (.tmp 15))⟩),
    (.late, ⟨(some 113), none, .val (.un .xor (.tmp 112))⟩),
    (.late, ⟨(some 114), none, .val (.mv (.tmp 17))⟩),
    (.late, ⟨(some 115), none, .val (.bin .and T.uint32 (.tmp 113) (.tmp 114))⟩),
    (.late, ⟨(some 116), none, .val (.bin .xor T.uint32 (.tmp 111) (.tmp 115))⟩),
    (.late, ⟨(some 118), none, .val (.mv (.tmp 19))⟩),
    (.late, ⟨(some 119), none, .val (.indexArr 64 1 (.tmp 10) (.tmp 118))⟩),
    (.late, ⟨(some 120), none, .val (.load 1 false (.tmp 119))⟩),
    (.late, ⟨(some 122), none, .val (.mv (.tmp 19))⟩),
    (.late, ⟨(some 123), none, .val (.indexArr 64 1 (.tmp 5) (.tmp 122))⟩),
    (.late, ⟨(some 124), none, .val (.load 1 false (.tmp 123))⟩),
    (.hard, ⟨(some 101), none, .call (.const (.func (.func F.podiumref02_ror) [] [])) [(.tmp 100), (.const (.int 6))]⟩),
    (.hard, ⟨(some 103), none, .call (.const (.func (.func F.podiumref02_ror) [] [])) [(.tmp 102), (.const (.int 11))]⟩),
    (.late, ⟨(some 104), none, .val (.bin .xor T.uint32 (.tmp 101) (.tmp 103))⟩),
    (.hard, ⟨(some 106), none, .call (.const (.func (.func F.podiumref02_ror) [] [])) [(.tmp 105), (.const (.int 25))]⟩),
    (.late, ⟨(some 107), none, .val (.bin .xor T.uint32 (.tmp 104) (.tmp 106))⟩),
    (.late, ⟨(some 108), none, .val (.bin .add T.uint32 (.tmp 99) (.tmp 107))⟩),
    (.late, ⟨(some 117), none, .val (.bin .add T.uint32 (.tmp 108) (.tmp 116))⟩),
    (.late, ⟨(some 121), none, .val (.bin .add T.uint32 (.tmp 117) (.tmp 120))⟩),
    (.late, ⟨(some 125), none, .val (.bin .add T.uint32 (.tmp 121) (.tmp 124))⟩),
    (.late, ⟨(some 20), none, .val (.mv (.tmp 125))⟩)] [99, 100, 101, 102, 103, 104, 105, 106, 107, 108, 109, 110, 111, 112, 113, 114, 115, 116, 117, 118, 119, 120, 121, 122, 123, 124, 125])
  (.seq (.region [
    ⟨(some 126), none, .val (.mv (.tmp 11))⟩,
    ⟨(some 127), none, .call (.const (.func (.func F.podiumref02_ror) [] [])) [(.tmp 126), (.const (.int 2))]⟩,
    ⟨(some 128), none, .val (.mv (.tmp 11))⟩,
    ⟨(some 129), none, .call (.const (.func (.func F.podiumref02_ror) [] [])) [(.tmp 128), (.const (.int 13))]⟩,
    ⟨(some 130), none, .val (.bin .xor T.uint32 (.tmp 127) (.tmp 129))⟩,
    ⟨(some 131), none, .val (.mv (.tmp 11))⟩,
    ⟨(some 132), none, .call (.const (.func (.func F.podiumref02_ror) [] [])) [(.tmp 131), (.const (.int 22))]⟩,
    ⟨(some 133), none, .val (.bin .xor T.uint32 (.tmp 130) (.tmp 132))⟩,
    ⟨(some 134), none, .val (.mv (.tmp 11))⟩,
    ⟨(some 135), none, .val (.mv (.tmp 12))⟩,
    ⟨(some 136), none, .val (.bin .and T.uint32 (.tmp 134) (.tmp 135))⟩,
    ⟨(some 137), none, .val (.mv (.tmp 11))⟩,
    ⟨(some 138), none, .val (.mv (.tmp 13))⟩,
    ⟨(some 139), none, .val (.bin .and T.uint32 (.tmp 137) (.tmp 138))⟩,
    ⟨(some 140), none, .val (.bin .xor T.uint32 (.tmp 136) (.tmp 139))⟩,
    ⟨(some 141), none, .val (.mv (.tmp 12))⟩,
    ⟨(some 142), none, .val (.mv (.tmp 13))⟩,
    ⟨(some 143), none, .val (.bin .and T.uint32 (.tmp 141) (.tmp 142))⟩,
    ⟨(some 144), none, .val (.bin .xor T.uint32 (.tmp 140) (.tmp 143))⟩,
    ⟨(some 145), none, .val (.bin .add T.uint32 (.tmp 133) (.tmp 144))⟩,
    ⟨(some 21), none, .val (.mv (.tmp 145))⟩] [126, 127, 128, 129, 130, 131, 132, 133, 134, 135, 136, 137, 138, 139, 140, 141, 142, 143, 144, 145])
  (.region [
    ⟨(some 146), none, .val (.mv (.tmp 17))⟩,
    ⟨(some 147), none, .val (.mv (.tmp 16))⟩,
    ⟨(some 148), none, .val (.mv (.tmp 15))⟩,
    ⟨(some 149), none, .val (.mv (.tmp 14))⟩,
    ⟨(some 150), none, .val (.mv (.tmp 20))⟩,
    ⟨(some 151), none, .val (.bin .add T.uint32 (.tmp 149) (.tmp 150))⟩,
    ⟨(some 152), none, .val (.mv (.tmp 13))⟩,
    ⟨(some 153), none, .val (.mv (.tmp 12))⟩,
    ⟨(some 154), none, .val (.mv (.tmp 11))⟩,
    ⟨(some 155), none, .val (.mv (.tmp 20))⟩,
    ⟨(some 156), none, .val (.mv (.tmp 21))⟩,
    ⟨(some 157), none, .val (.bin .add T.uint32 (.tmp 155) (.tmp 156))⟩,
    ⟨(some 18), none, .val (.mv (.tmp 146))⟩,
    ⟨(some 17), none, .val (.mv (.tmp 147))⟩,
    ⟨(some 16), none, .val (.mv (.tmp 148))⟩,
    ⟨(some 15), none, .val (.mv (.tmp 151))⟩,
    ⟨(some 14), none, .val (.mv (.tmp 152))⟩,
    ⟨(some 13), none, .val (.mv (.tmp 153))⟩,
    ⟨(some 12), none, .val (.mv (.tmp 154))⟩,
    ⟨(some 11), none, .val (.mv (.tmp 157))⟩] [146, 147, 148, 149, 150, 151, 152, 153, 154, 155, 156, 157]))))
  (.region [
    ⟨(some 97), none, .val (.mv (.tmp 19))⟩,
    ⟨(some 98), none, .val (.bin .add T.int (.tmp 97) (.const (.int 1)))⟩,
    ⟨(some 19), none, .val (.mv (.tmp 98))⟩] [97, 98]))))))
  (.seq (.region (
    ⟨(some 158), none, .val (.indexArr 8 1 (.tmp 2) (.const (.int 0)))⟩ ::
    ⟨(some 159), none, .val (.load 1 false (.tmp 158))⟩ ::
    ⟨(some 160), none, .val (.mv (.tmp 11))⟩ ::
    ⟨(some 161), none, .val (.bin .add T.uint32 (.tmp 159) (.tmp 160))⟩ ::
    ⟨(some 162), none, .val (.indexArr 8 1 (.tmp 2) (.const (.int 1)))⟩ ::
    ⟨(some 163), none, .val (.load 1 false (.tmp 162))⟩ ::
    ⟨(some 164), none, .val (.mv (.tmp 12))⟩ ::
    ⟨(some 165), none, .val (.bin .add T.uint32 (.tmp 163) (.tmp 164))⟩ ::
    ⟨(some 166), none, .val (.indexArr 8 1 (.tmp 2) (.const (.int 2)))⟩ ::
    ⟨(some 167), none, .val (.load 1 false (.tmp 166))⟩ ::
    ⟨(some 168), none, .val (.mv (.tmp 13))⟩ ::
    ⟨(some 169), none, .val (.bin .add T.uint32 (.tmp 167) (.tmp 168))⟩ ::
    ⟨(some 170), none, .val (.indexArr 8 1 (.tmp 2) (.const (.int 3)))⟩ ::
    ⟨(some 171), none, .val (.load 1 false (.tmp 170))⟩ ::
    ⟨(some 172), none, .val (.mv (.tmp 14))⟩ ::
    ⟨(some 173), none, .val (.bin .add T.uint32 (.tmp 171) (.tmp 172))⟩ ::
    ⟨(some 174), none, .val (.indexArr 8 1 (.tmp 2) (.const (.int 4)))⟩ ::
    ⟨(some 175), none, .val (.load 1 false (.tmp 174))⟩ ::
    ⟨(some 176), none, .val (.mv (.tmp 15))⟩ ::
    ⟨(some 177), none, .val (.bin .add T.uint32 (.tmp 175) (.tmp 176))⟩ ::
    ⟨(some 178), none, .val (.indexArr 8 1 (.tmp 2) (.const (.int 5)))⟩ ::
    ⟨(some 179), none, .val (.load 1 false (.tmp 178))⟩ ::
    ⟨(some 180), none, .val (.mv (.tmp 16))⟩ ::
    ⟨(some 181), none, .val (.bin .add T.uint32 (.tmp 179) (.tmp 180))⟩ ::
    ⟨(some 182), none, .val (.indexArr 8 1 (.tmp 2) (.const (.int 6)))⟩ ::
    ⟨(some 183), none, .val (.load 1 false (.tmp 182))⟩ ::
    ⟨(some 184), none, .val (.mv (.tmp 17))⟩ ::
    ⟨(some 185), none, .val (.bin .add T.uint32 (.tmp 183) (.tmp 184))⟩ ::
    ⟨(some 186), none, .val (.indexArr 8 1 (.tmp 2) (.const (.int 7)))⟩ ::
    ⟨(some 187), none, .val (.load 1 false (.tmp 186))⟩ ::
    ⟨(some 188), none, .val (.mv (.tmp 18))⟩ ::
    ⟨(some 189), none, .val (.bin .add T.uint32 (.tmp 187) (.tmp 188))⟩ ::
    ⟨(some 190), none, .val (.build [(.val (.int .u32 0)), (.val (.int .u32 0)), (.val (.int .u32 0)), (.val (.int .u32 0)), (.val (.int .u32 0)), (.val (.int .u32 0)), (.val (.int .u32 0)), (.val (.int .u32 0))] [(0, 1, (.tmp 161)), (1, 1, (.tmp 165)), (2, 1, (.tmp 169)), (3, 1, (.tmp 173)), (4, 1, (.tmp 177)), (5, 1, (.tmp 181)), (6, 1, (.tmp 185)), (7, 1, (.tmp 189))])⟩ ::
    ⟨none, none, .store 8 (.tmp 4) (.tmp 190)⟩ :: []) (158 :: 159 :: 160 :: 161 :: 162 :: 163 :: 164 :: 165 :: 166 :: 167 :: 168 :: 169 :: 170 :: 171 :: 172 :: 173 :: 174 :: 175 :: 176 :: 177 :: 178 :: 179 :: 180 :: 181 :: 182 :: 183 :: 184 :: 185 :: 186 :: 187 :: 188 :: 189 :: 190 :: []))
  .ret))))))))⟩
theorem H.podiumref02_block : Has P F.podiumref02_block C.podiumref02_block := ⟨Tryd.f63, Tryd.func63, by kernel_rfl, by kernel_rfl⟩

/-- podium/podiumref01.Check -/
noncomputable def C.podiumref01_Check : MFunc := ⟨9, 1, [.tmp 2],
  (.seq (.region [
    ⟨(some 1), none, .box T.apiValue (.tmp 0)⟩,
    ⟨(some 2), none, .val (.mv (.const (.int 0)))⟩] [])
  (.seq (.seq (.region [
    ⟨(some 3), none, .val (.load 4 true (.tmp 1))⟩,
    ⟨(some 4), none, .call (.const (.func (.func F.podiumref01_Formed) [] [])) [(.tmp 3)]⟩,
    ⟨(some 5), none, .val (.un .not (.tmp 4))⟩] [3, 4])
  (.cond (.tmp 5)
  (.seq (.region [
    ⟨(some 2), none, .val (.mv (.const (.int 1)))⟩] [])
  .ret)
  .skip))
  (.seq (.seq (.region [
    ⟨(some 6), none, .val (.load 4 true (.tmp 1))⟩,
    ⟨(some 7), none, .call (.const (.func (.func F.podiumref01_Depth) [] [])) [(.tmp 6)]⟩,
    ⟨(some 8), none, .val (.bin .gtr T.int (.tmp 7) (.const (.int 16)))⟩] [6, 7])
  (.cond (.tmp 8)
  (.seq (.region [
    ⟨(some 2), none, .val (.mv (.const (.int 2)))⟩] [])
  .ret)
  .skip))
  (.seq (.region [
    ⟨(some 2), none, .val (.mv (.const (.int 0)))⟩] [])
  .ret))))⟩
theorem H.podiumref01_Check : Has P F.podiumref01_Check C.podiumref01_Check := ⟨Tryd.f64, Tryd.func64, by kernel_rfl, by kernel_rfl⟩

/-- podium/podiumref01.encode -/
noncomputable def C.podiumref01_encode : MFunc := ⟨50, 1, [.tmp 2],
  (.seq (.region [
    ⟨(some 1), none, .box T.apiValue (.tmp 0)⟩,
    ⟨(some 2), none, .val (.mv (.const .nil))⟩] [])
  (.seq (.seq (.region [
    ⟨(some 5), none, .val (.fieldAddr 0 (.tmp 1))⟩,
    ⟨(some 6), none, .val (.load 1 false (.tmp 5))⟩] [5])
  (.block 0 (.seq (.region [
    ⟨(some 8), none, .val (.bin .eql T.int (.tmp 6) (.const (.int 1)))⟩,
    ⟨(some 7), none, .val (.mv (.tmp 8))⟩] [8])
  (.cond (.tmp 7)
  (.seq (.region [
    ⟨(some 9), none, .val (.buildSlice T.uint8 1 [(.val (.int .u8 0))] [(0, 1, (.const (.val (.int .u8 1))))])⟩,
    ⟨(some 10), none, .val (.fieldAddr 1 (.tmp 1))⟩,
    ⟨(some 11), none, .val (.load 1 false (.tmp 10))⟩,
    ⟨(some 12), none, .call (.const (.func (.func F.podiumref01_unsigned) [] [])) [(.tmp 11)]⟩,
    ⟨(some 13), none, .call (.const (.func (.func F.podiumref01_numeral) [] [])) [(.tmp 12)]⟩,
    ⟨(some 14), none, .append T.uint8 1 1 (.tmp 9) (.tmp 13)⟩,
    ⟨(some 2), none, .val (.mv (.tmp 14))⟩] [9, 10, 11, 12, 13, 14])
  .ret)
  (.seq (.region [
    ⟨(some 16), none, .val (.bin .eql T.int (.tmp 6) (.const (.int 2)))⟩,
    ⟨(some 15), none, .val (.mv (.tmp 16))⟩] [16])
  (.cond (.tmp 15)
  (.seq (.draw true [
    (.late, ⟨(some 17), none, .val (.buildSlice T.uint8 1 [(.val (.int .u8 0))] [(0, 1, (.const (.val (.int .u8 2))))])⟩),
    (.early, ⟨(some 18), none, .val (.fieldAddr 2 (.tmp 1))⟩),
    (.early, ⟨(some 19), none, .val (.load 1 false (.tmp 18))⟩),
    (.early, ⟨(some 20), none, .val (.strlen (.tmp 19))⟩),
    (.early, ⟨(some 21), none, .val (.toInt .u64 (.tmp 20))⟩),
    (.late, ⟨(some 24), none, .val (.fieldAddr 2 (.tmp 1))⟩),
    (.late, ⟨(some 25), none, .val (.load 1 false (.tmp 24))⟩),
    (.hard, ⟨(some 22), none, .call (.const (.func (.func F.podiumref01_numeral) [] [])) [(.tmp 21)]⟩),
    (.hard, ⟨(some 23), none, .append T.uint8 1 1 (.tmp 17) (.tmp 22)⟩),
    (.hard, ⟨(some 26), none, .append T.uint8 1 1 (.tmp 23) (.tmp 25)⟩),
    (.late, ⟨(some 2), none, .val (.mv (.tmp 26))⟩)] [17, 18, 19, 20, 21, 22, 23, 24, 25, 26])
  .ret)
  .skip))))))
  (.seq (.region [
    ⟨(some 27), none, .val (.buildSlice T.uint8 1 [(.val (.int .u8 0))] [(0, 1, (.const (.val (.int .u8 3))))])⟩,
    ⟨(some 28), none, .val (.fieldAddr 3 (.tmp 1))⟩,
    ⟨(some 29), none, .val (.load 1 false (.tmp 28))⟩,
    ⟨(some 30), none, .val (.len (.tmp 29))⟩,
    ⟨(some 31), none, .val (.toInt .u64 (.tmp 30))⟩,
    ⟨(some 32), none, .call (.const (.func (.func F.podiumref01_numeral) [] [])) [(.tmp 31)]⟩,
    ⟨(some 33), none, .append T.uint8 1 1 (.tmp 27) (.tmp 32)⟩,
    ⟨(some 3), none, .val (.mv (.tmp 33))⟩] [27, 28, 29, 30, 31, 32, 33])
  (.seq (.seq (.region [
    ⟨(some 4), none, .val (.mv (.const (.int 0)))⟩] [])
  (.block 1 (.loop (.seq (.seq (.region [
    ⟨(some 34), none, .val (.mv (.tmp 4))⟩,
    ⟨(some 35), none, .val (.fieldAddr 3 (.tmp 1))⟩,
    ⟨(some 36), none, .val (.load 1 false (.tmp 35))⟩,
    ⟨(some 37), none, .val (.len (.tmp 36))⟩,
    ⟨(some 38), none, .val (.bin .lss T.int (.tmp 34) (.tmp 37))⟩] [34, 35, 36, 37])
  (.cond (.tmp 38)
  .skip
  (.exit 1)))
  (.seq (.block 2 (.region [
    ⟨(some 41), none, .val (.mv (.tmp 3))⟩,
    ⟨(some 42), none, .val (.fieldAddr 3 (.tmp 1))⟩,
    ⟨(some 43), none, .val (.load 1 false (.tmp 42))⟩,
    ⟨(some 44), none, .val (.mv (.tmp 4))⟩,
    ⟨(some 45), none, .val (.indexAddr 4 (.tmp 43) (.tmp 44))⟩,
    ⟨(some 46), none, .val (.load 4 true (.tmp 45))⟩,
    ⟨(some 47), none, .call (.const (.func (.func F.podiumref01_encode) [] [])) [(.tmp 46)]⟩,
    ⟨(some 48), none, .append T.uint8 1 1 (.tmp 41) (.tmp 47)⟩,
    ⟨(some 3), none, .val (.mv (.tmp 48))⟩] [41, 42, 43, 44, 45, 46, 47, 48]))
  (.region [
    ⟨(some 39), none, .val (.mv (.tmp 4))⟩,
    ⟨(some 40), none, .val (.bin .add T.int (.tmp 39) (.const (.int 1)))⟩,
    ⟨(some 4), none, .val (.mv (.tmp 40))⟩] [39, 40]))))))
  (.seq (.region [
    ⟨(some 49), none, .val (.mv (.tmp 3))⟩,
    ⟨(some 2), none, .val (.mv (.tmp 49))⟩] [49])
  .ret)))))⟩
theorem H.podiumref01_encode : Has P F.podiumref01_encode C.podiumref01_encode := ⟨Tryd.f65, Tryd.func65, by kernel_rfl, by kernel_rfl⟩

/-- podium/codec.formed -/
noncomputable def C.codec_formed : MFunc := ⟨74, 1, [.tmp 2, .tmp 3],
  (.seq (.region [
    ⟨(some 1), none, .box T.apiValue (.tmp 0)⟩,
    ⟨(some 2), none, .val (.mv (.const (.int 0)))⟩,
    ⟨(some 3), none, .val (.mv (.const (.bool false)))⟩] [])
  (.seq (.region [
    ⟨(some 9), none, .val (.fieldAddr 2 (.tmp 1))⟩,
    ⟨(some 10), none, .val (.load 1 false (.tmp 9))⟩,
    ⟨(some 11), none, .val (.bin .eql T.string (.tmp 10) (.const (.val (.string ⟨#[]⟩))))⟩,
    ⟨(some 12), none, .val (.mv (.tmp 11))⟩,
    ⟨(some 13), (some (12, true)), .val (.fieldAddr 3 (.tmp 1))⟩,
    ⟨(some 14), (some (12, true)), .val (.load 1 false (.tmp 13))⟩,
    ⟨(some 15), (some (12, true)), .val (.len (.tmp 14))⟩,
    ⟨(some 16), (some (12, true)), .val (.bin .eql T.int (.tmp 15) (.const (.int 0)))⟩,
    ⟨(some 17), none, .val (.pick (.tmp 12) (.tmp 16) (.const (.bool false)))⟩,
    ⟨(some 18), none, .val (.fieldAddr 1 (.tmp 1))⟩,
    ⟨(some 19), none, .val (.load 1 false (.tmp 18))⟩,
    ⟨(some 20), none, .val (.bin .eql T.int (.tmp 19) (.const (.int 0)))⟩,
    ⟨(some 21), none, .val (.mv (.tmp 20))⟩,
    ⟨(some 22), (some (21, true)), .val (.fieldAddr 3 (.tmp 1))⟩,
    ⟨(some 23), (some (21, true)), .val (.load 1 false (.tmp 22))⟩,
    ⟨(some 24), (some (21, true)), .val (.len (.tmp 23))⟩,
    ⟨(some 25), (some (21, true)), .val (.bin .eql T.int (.tmp 24) (.const (.int 0)))⟩,
    ⟨(some 26), none, .val (.pick (.tmp 21) (.tmp 25) (.const (.bool false)))⟩,
    ⟨(some 27), none, .val (.fieldAddr 1 (.tmp 1))⟩,
    ⟨(some 28), none, .val (.load 1 false (.tmp 27))⟩,
    ⟨(some 29), none, .val (.bin .eql T.int (.tmp 28) (.const (.int 0)))⟩,
    ⟨(some 30), none, .val (.mv (.tmp 29))⟩,
    ⟨(some 31), (some (30, true)), .val (.fieldAddr 2 (.tmp 1))⟩,
    ⟨(some 32), (some (30, true)), .val (.load 1 false (.tmp 31))⟩,
    ⟨(some 33), (some (30, true)), .val (.bin .eql T.string (.tmp 32) (.const (.val (.string ⟨#[]⟩))))⟩,
    ⟨(some 34), none, .val (.pick (.tmp 30) (.tmp 33) (.const (.bool false)))⟩,
    ⟨(some 35), none, .val (.build [(.bool false), (.bool false), (.bool false), (.bool false)] [(1, 1, (.tmp 17)), (2, 1, (.tmp 26)), (3, 1, (.tmp 34))])⟩,
    ⟨(some 4), none, .alloc T.t4bool [(.bool false), (.bool false), (.bool false), (.bool false)]⟩,
    ⟨none, none, .store 4 (.tmp 4) (.tmp 35)⟩] [9, 10, 11, 12, 13, 14, 15, 16, 17, 18, 19, 20, 21, 22, 23, 24, 25, 26, 27, 28, 29, 30, 31, 32, 33, 34, 35])
  (.seq (.seq (.region [
    ⟨(some 36), none, .val (.fieldAddr 0 (.tmp 1))⟩,
    ⟨(some 37), none, .val (.load 1 false (.tmp 36))⟩,
    ⟨(some 38), none, .val (.bin .lss T.int (.tmp 37) (.const (.int 1)))⟩,
    ⟨(some 39), none, .val (.mv (.tmp 38))⟩,
    ⟨(some 40), (some (39, false)), .val (.fieldAddr 0 (.tmp 1))⟩,
    ⟨(some 41), (some (39, false)), .val (.load 1 false (.tmp 40))⟩,
    ⟨(some 42), (some (39, false)), .val (.bin .gtr T.int (.tmp 41) (.const (.int 3)))⟩,
    ⟨(some 43), none, .val (.pick (.tmp 39) (.const (.bool true)) (.tmp 42))⟩,
    ⟨(some 44), none, .val (.mv (.tmp 43))⟩,
    ⟨(some 45), (some (44, false)), .val (.fieldAddr 0 (.tmp 1))⟩,
    ⟨(some 46), (some (44, false)), .val (.load 1 false (.tmp 45))⟩,
    ⟨(some 47), (some (44, false)), .val (.indexArr 4 1 (.tmp 4) (.tmp 46))⟩,
    ⟨(some 48), (some (44, false)), .val (.load 1 false (.tmp 47))⟩,
    ⟨(some 49), (some (44, false)), .val (.un .not (.tmp 48))⟩,
    ⟨(some 50), none, .val (.pick (.tmp 44) (.const (.bool true)) (.tmp 49))⟩] [36, 37, 38, 39, 40, 41, 42, 43, 44, 45, 46, 47, 48, 49])
  (.cond (.tmp 50)
  (.seq (.region [
    ⟨(some 2), none, .val (.mv (.const (.int 0)))⟩,
    ⟨(some 3), none, .val (.mv (.const (.bool false)))⟩] [])
  .ret)
  .skip))
  (.seq (.seq (.region [
    ⟨(some 51), none, .val (.fieldAddr 0 (.tmp 1))⟩,
    ⟨(some 52), none, .val (.load 1 false (.tmp 51))⟩,
    ⟨(some 53), none, .val (.bin .lss T.int (.tmp 52) (.const (.int 3)))⟩] [51, 52])
  (.cond (.tmp 53)
  (.seq (.region [
    ⟨(some 2), none, .val (.mv (.const (.int 0)))⟩,
    ⟨(some 3), none, .val (.mv (.const (.bool true)))⟩] [])
  .ret)
  .skip))
  (.seq (.seq (.region [
    ⟨(some 54), none, .val (.fieldAddr 3 (.tmp 1))⟩,
    ⟨(some 55), none, .val (.load 1 false (.tmp 54))⟩,
    ⟨(some 56), none, .val (.len (.tmp 55))⟩,
    ⟨(some 57), none, .val (.mv (.const (.int 0)))⟩] [54])
  (.block 0 (.loop (.seq (.region [
    ⟨(some 58), none, .val (.bin .lss T.int (.tmp 57) (.tmp 56))⟩] [])
  (.seq (.cond (.tmp 58)
  .skip
  (.exit 0))
  (.seq (.block 1 (.seq (.region [
    ⟨(some 59), none, .val (.indexAddr 4 (.tmp 55) (.tmp 57))⟩,
    ⟨(some 60), none, .val (.load 4 true (.tmp 59))⟩,
    ⟨(some 6), none, .alloc T.apiValue [(.int 0), (.int 0), (.val (.string ⟨#[]⟩)), .nil]⟩,
    ⟨none, none, .store 4 (.tmp 6) (.tmp 60)⟩] [59, 60])
  (.seq (.region [
    ⟨(some 62), none, .val (.load 4 true (.tmp 6))⟩,
    ⟨(some 63), none, .call (.const (.func (.func F.codec_formed) [] [])) [(.tmp 62)]⟩,
    ⟨(some 61), none, .val (.mv (.tmp 63))⟩,
    ⟨(some 64), none, .val (.extract 0 (.tmp 61))⟩,
    ⟨(some 65), none, .val (.extract 1 (.tmp 61))⟩,
    ⟨(some 7), none, .val (.mv (.tmp 64))⟩,
    ⟨(some 8), none, .val (.mv (.tmp 65))⟩] [62, 63, 61, 64, 65])
  (.seq (.seq (.region [
    ⟨(some 66), none, .val (.mv (.tmp 8))⟩,
    ⟨(some 67), none, .val (.un .not (.tmp 66))⟩] [66])
  (.cond (.tmp 67)
  (.seq (.region [
    ⟨(some 2), none, .val (.mv (.const (.int 0)))⟩,
    ⟨(some 3), none, .val (.mv (.const (.bool false)))⟩] [])
  .ret)
  .skip))
  (.region [
    ⟨(some 68), none, .val (.mv (.tmp 2))⟩,
    ⟨(some 69), none, .val (.mv (.tmp 7))⟩,
    ⟨(some 70), none, .val (.minmax true [(.tmp 68), (.tmp 69)])⟩,
    ⟨(some 2), none, .val (.mv (.tmp 70))⟩] [68, 69, 70])))))
  (.region [
    ⟨(some 71), none, .val (.bin .add T.int (.tmp 57) (.const (.int 1)))⟩,
    ⟨(some 57), none, .val (.mv (.tmp 71))⟩] [71])))))))
  (.seq (.region [
    ⟨(some 72), none, .val (.mv (.tmp 2))⟩,
    ⟨(some 73), none, .val (.bin .add T.int (.tmp 72) (.const (.int 1)))⟩,
    ⟨(some 2), none, .val (.mv (.tmp 73))⟩,
    ⟨(some 3), none, .val (.mv (.const (.bool true)))⟩] [72, 73])
  .ret))))))⟩
theorem H.codec_formed : Has P F.codec_formed C.codec_formed := ⟨Tryd.f66, Tryd.func66, by kernel_rfl, by kernel_rfl⟩

/-- podium/codec.newWriter$1 -/
noncomputable def C.codec_newWriter_1 : MFunc := ⟨12, 2, [.tmp 4],
  (.seq (.region [
    ⟨(some 3), none, .box T.apiValue (.tmp 1)⟩,
    ⟨(some 4), none, .val (.mv (.const .nil))⟩] [])
  (.seq (.draw true [
    (.early, ⟨(some 5), none, .val (.mv (.tmp 0))⟩),
    (.early, ⟨(some 6), none, .val (.buildSlice T.uint8 1 [(.val (.int .u8 0))] [(0, 1, (.const (.val (.int .u8 1))))])⟩),
    (.late, ⟨(some 8), none, .val (.fieldAddr 1 (.tmp 3))⟩),
    (.late, ⟨(some 9), none, .val (.load 1 false (.tmp 8))⟩),
    (.hard, ⟨(some 7), none, .append T.uint8 1 1 (.tmp 5) (.tmp 6)⟩),
    (.hard, ⟨(some 10), none, .call (.const (.func (.func F.codec_unsigned) [] [])) [(.tmp 9)]⟩),
    (.hard, ⟨(some 11), none, .call (.const (.func (.func F.codec_numeral) [] [])) [(.tmp 7), (.tmp 10)]⟩),
    (.late, ⟨(some 4), none, .val (.mv (.tmp 11))⟩)] [5, 6, 7, 8, 9, 10, 11])
  .ret))⟩
theorem H.codec_newWriter_1 : Has P F.codec_newWriter_1 C.codec_newWriter_1 := ⟨Tryd.f67, Tryd.func67, by kernel_rfl, by kernel_rfl⟩

/-- podium/codec.numeral -/
noncomputable def C.codec_numeral : MFunc := ⟨20, 2, [.tmp 4],
  (.seq (.region [
    ⟨(some 4), none, .val (.mv (.const .nil))⟩] [])
  (.seq (.block 0 (.loop (.seq (.seq (.region [
    ⟨(some 5), none, .val (.mv (.tmp 1))⟩,
    ⟨(some 6), none, .val (.bin .geq T.uint64 (.tmp 5) (.const (.val (.int .u64 128))))⟩] [5])
  (.cond (.tmp 6)
  .skip
  (.exit 0)))
  (.seq (.block 1 (.region [
    ⟨(some 9), none, .val (.mv (.tmp 0))⟩,
    ⟨(some 10), none, .val (.mv (.tmp 1))⟩,
    ⟨(some 11), none, .val (.toInt .u8 (.tmp 10))⟩,
    ⟨(some 12), none, .val (.bin .or T.uint8 (.tmp 11) (.const (.val (.int .u8 128))))⟩,
    ⟨(some 13), none, .val (.buildSlice T.uint8 1 [(.val (.int .u8 0))] [(0, 1, (.tmp 12))])⟩,
    ⟨(some 14), none, .append T.uint8 1 1 (.tmp 9) (.tmp 13)⟩,
    ⟨(some 0), none, .val (.mv (.tmp 14))⟩] [9, 10, 11, 12, 13, 14]))
  (.region [
    ⟨(some 7), none, .val (.mv (.tmp 1))⟩,
    ⟨(some 8), none, .val (.bin .shr T.uint64 (.tmp 7) (.const (.val (.int .u64 7))))⟩,
    ⟨(some 1), none, .val (.mv (.tmp 8))⟩] [7, 8])))))
  (.seq (.region [
    ⟨(some 15), none, .val (.mv (.tmp 0))⟩,
    ⟨(some 16), none, .val (.mv (.tmp 1))⟩,
    ⟨(some 17), none, .val (.toInt .u8 (.tmp 16))⟩,
    ⟨(some 18), none, .val (.buildSlice T.uint8 1 [(.val (.int .u8 0))] [(0, 1, (.tmp 17))])⟩,
    ⟨(some 19), none, .append T.uint8 1 1 (.tmp 15) (.tmp 18)⟩,
    ⟨(some 4), none, .val (.mv (.tmp 19))⟩] [15, 16, 17, 18, 19])
  .ret)))⟩
theorem H.codec_numeral : Has P F.codec_numeral C.codec_numeral := ⟨Tryd.f68, Tryd.func68, by kernel_rfl, by kernel_rfl⟩

/-- podium/codec.unsigned -/
noncomputable def C.codec_unsigned : MFunc := ⟨10, 1, [.tmp 2],
  (.seq (.region [
    ⟨(some 2), none, .val (.mv (.const (.val (.int .u64 0))))⟩] [])
  (.seq (.region [
    ⟨(some 3), none, .val (.mv (.tmp 0))⟩,
    ⟨(some 4), none, .val (.toInt .u64 (.tmp 3))⟩,
    ⟨(some 5), none, .val (.bin .shl T.uint64 (.tmp 4) (.const (.val (.int .u64 1))))⟩,
    ⟨(some 6), none, .val (.mv (.tmp 0))⟩,
    ⟨(some 7), none, .val (.bin .shr T.int (.tmp 6) (.const (.val (.int .u64 63))))⟩,
    ⟨(some 8), none, .val (.toInt .u64 (.tmp 7))⟩,
    ⟨(some 9), none, .val (.bin .xor T.uint64 (.tmp 5) (.tmp 8))⟩,
    ⟨(some 2), none, .val (.mv (.tmp 9))⟩] [3, 4, 5, 6, 7, 8, 9])
  .ret))⟩
theorem H.codec_unsigned : Has P F.codec_unsigned C.codec_unsigned := ⟨Tryd.f69, Tryd.func69, by kernel_rfl, by kernel_rfl⟩

/-- podium/codec.newWriter$2 -/
noncomputable def C.codec_newWriter_2 : MFunc := ⟨16, 2, [.tmp 4],
  (.seq (.region [
    ⟨(some 3), none, .box T.apiValue (.tmp 1)⟩,
    ⟨(some 4), none, .val (.mv (.const .nil))⟩] [])
  (.seq (.draw true [
    (.early, ⟨(some 5), none, .val (.mv (.tmp 0))⟩),
    (.early, ⟨(some 6), none, .val (.buildSlice T.uint8 1 [(.val (.int .u8 0))] [(0, 1, (.const (.val (.int .u8 2))))])⟩),
    (.late, ⟨(some 8), none, .val (.fieldAddr 2 (.tmp 3))⟩),
    (.late, ⟨(some 9), none, .val (.load 1 false (.tmp 8))⟩),
    (.late, ⟨(some 10), none, .val (.strlen (.tmp 9))⟩),
    (.late, ⟨(some 11), none, .val (.toInt .u64 (.tmp 10))⟩),
    (.late, ⟨(some 13), none, .val (.fieldAddr 2 (.tmp 3))⟩),
    (.late, ⟨(some 14), none, .val (.load 1 false (.tmp 13))⟩),
    (.hard, ⟨(some 7), none, .append T.uint8 1 1 (.tmp 5) (.tmp 6)⟩),
    (.hard, ⟨(some 12), none, .call (.const (.func (.func F.codec_numeral) [] [])) [(.tmp 7), (.tmp 11)]⟩),
    (.hard, ⟨(some 15), none, .append T.uint8 1 1 (.tmp 12) (.tmp 14)⟩),
    (.late, ⟨(some 4), none, .val (.mv (.tmp 15))⟩)] [5, 6, 7, 8, 9, 10, 11, 12, 13, 14, 15])
  .ret))⟩
theorem H.codec_newWriter_2 : Has P F.codec_newWriter_2 C.codec_newWriter_2 := ⟨Tryd.f70, Tryd.func70, by kernel_rfl, by kernel_rfl⟩

/-- podium/codec.newWriter$3 -/
noncomputable def C.codec_newWriter_3 : MFunc := ⟨35, 3, [.tmp 5],
  (.seq (.region [
    ⟨(some 4), none, .box T.apiValue (.tmp 1)⟩,
    ⟨(some 5), none, .val (.mv (.const .nil))⟩] [])
  (.seq (.draw true [
    (.early, ⟨(some 8), none, .val (.mv (.tmp 0))⟩),
    (.early, ⟨(some 9), none, .val (.buildSlice T.uint8 1 [(.val (.int .u8 0))] [(0, 1, (.const (.val (.int .u8 3))))])⟩),
    (.late, ⟨(some 11), none, .val (.fieldAddr 3 (.tmp 4))⟩),
    (.late, ⟨(some 12), none, .val (.load 1 false (.tmp 11))⟩),
    (.late, ⟨(some 13), none, .val (.len (.tmp 12))⟩),
    (.late, ⟨(some 14), none, .val (.toInt .u64 (.tmp 13))⟩),
    (.hard, ⟨(some 10), none, .append T.uint8 1 1 (.tmp 8) (.tmp 9)⟩),
    (.hard, ⟨(some 15), none, .call (.const (.func (.func F.codec_numeral) [] [])) [(.tmp 10), (.tmp 14)]⟩),
    (.late, ⟨(some 0), none, .val (.mv (.tmp 15))⟩)] [8, 9, 10, 11, 12, 13, 14, 15])
  (.seq (.seq (.region [
    ⟨(some 16), none, .val (.fieldAddr 3 (.tmp 4))⟩,
    ⟨(some 17), none, .val (.load 1 false (.tmp 16))⟩,
    ⟨(some 18), none, .val (.len (.tmp 17))⟩,
    ⟨(some 19), none, .val (.mv (.const (.int 0)))⟩] [16])
  (.block 0 (.loop (.seq (.region [
    ⟨(some 20), none, .val (.bin .lss T.int (.tmp 19) (.tmp 18))⟩] [])
  (.seq (.cond (.tmp 20)
  .skip
  (.exit 0))
  (.seq (.block 1 (.seq (.region [
    ⟨(some 21), none, .val (.indexAddr 4 (.tmp 17) (.tmp 19))⟩,
    ⟨(some 22), none, .val (.load 4 true (.tmp 21))⟩,
    ⟨(some 7), none, .alloc T.apiValue [(.int 0), (.int 0), (.val (.string ⟨#[]⟩)), .nil]⟩,
    ⟨none, none, .store 4 (.tmp 7) (.tmp 22)⟩] [21, 22])
  (.draw true [
    (.early, ⟨(some 23), none, .val (.load 1 false (.tmp 2))⟩),
    (.early, ⟨(some 24), none, .val (.fieldAddr 0 (.tmp 7))⟩),
    (.early, ⟨(some 25), none, .val (.load 1 false (.tmp 24))⟩),
    (.early, ⟨(some 26), none, .val (.nilCheck (.tmp 23))⟩),
    (.early, ⟨(some 27), none, .val (.indexArr 4 1 (.tmp 26) (.tmp 25))⟩),
    (.early, ⟨(some 28), none, .val (.fieldAddr 0 (.tmp 27))⟩),
    (.early, ⟨(some 29), none, .val (.load 1 false (.tmp 28))⟩),
    (.early, ⟨(some 30), none, .val (.mv (.tmp 0))⟩),
    (.early, ⟨(some 31), none, .val (.load 4 true (.tmp 7))⟩),
    (.hard, ⟨(some 32), none, .call (.tmp 29) [(.tmp 30), (.tmp 31)]⟩),
    (.late, ⟨(some 0), none, .val (.mv (.tmp 32))⟩)] [23, 24, 25, 26, 27, 28, 29, 30, 31, 32])))
  (.region [
    ⟨(some 33), none, .val (.bin .add T.int (.tmp 19) (.const (.int 1)))⟩,
    ⟨(some 19), none, .val (.mv (.tmp 33))⟩] [33])))))))
  (.seq (.region [
    ⟨(some 34), none, .val (.mv (.tmp 0))⟩,
    ⟨(some 5), none, .val (.mv (.tmp 34))⟩] [34])
  .ret))))⟩
theorem H.codec_newWriter_3 : Has P F.codec_newWriter_3 C.codec_newWriter_3 := ⟨Tryd.f71, Tryd.func71, by kernel_rfl, by kernel_rfl⟩

/-- podium/digest.word -/
noncomputable def C.digest_word : MFunc := ⟨19, 1, [.tmp 2],
  (.seq (.region [
    ⟨(some 2), none, .val (.mv (.const (.val (.int .u32 0))))⟩] [])
  (.seq (.seq (.region [
    ⟨(some 5), none, .val (.mv (.tmp 0))⟩,
    ⟨(some 6), none, .val (.slice 1 (.tmp 5) none (some (.const (.int 4))) none)⟩,
    ⟨(some 7), none, .val (.len (.tmp 6))⟩,
    ⟨(some 8), none, .val (.mv (.const (.int 0)))⟩] [5])
  (.block 0 (.loop (.seq (.region [
    ⟨(some 9), none, .val (.bin .lss T.int (.tmp 8) (.tmp 7))⟩] [])
  (.seq (.cond (.tmp 9)
  .skip
  (.exit 0))
  (.seq (.block 1 (.seq (.region [
    ⟨(some 10), none, .val (.indexAddr 1 (.tmp 6) (.tmp 8))⟩,
    ⟨(some 11), none, .val (.load 1 false (.tmp 10))⟩,
    ⟨(some 4), none, .val (.mv (.tmp 11))⟩] [10, 11])
  (.region [
    ⟨(some 12), none, .val (.mv (.tmp 2))⟩,
    ⟨(some 13), none, .val (.bin .shl T.uint32 (.tmp 12) (.const (.val (.int .u64 8))))⟩,
    ⟨(some 14), none, .val (.mv (.tmp 4))⟩,
    ⟨(some 15), none, .val (.toInt .u32 (.tmp 14))⟩,
    ⟨(some 16), none, .val (.bin .or T.uint32 (.tmp 13) (.tmp 15))⟩,
    ⟨(some 2), none, .val (.mv (.tmp 16))⟩] [12, 13, 14, 15, 16])))
  (.region [
    ⟨(some 17), none, .val (.bin .add T.int (.tmp 8) (.const (.int 1)))⟩,
    ⟨(some 8), none, .val (.mv (.tmp 17))⟩] [17])))))))
  (.seq (.region [
    ⟨(some 18), none, .val (.mv (.tmp 2))⟩,
    ⟨(some 2), none, .val (.mv (.tmp 18))⟩] [18])
  .ret)))⟩
theorem H.digest_word : Has P F.digest_word C.digest_word := ⟨Tryd.f72, Tryd.func72, by kernel_rfl, by kernel_rfl⟩

/-- math/bits.RotateLeft32 -/
noncomputable def C.math_bits_RotateLeft32 : MFunc := ⟨17, 2, [.tmp 4],
  (.seq (.region [
    ⟨(some 4), none, .val (.mv (.const (.val (.int .u32 0))))⟩] [])
  (.seq (.region [
    ⟨(some 6), none, .val (.mv (.tmp 1))⟩,
    ⟨(some 7), none, .val (.toInt .u64 (.tmp 6))⟩,
    ⟨(some 8), none, .val (.bin .and T.uint (.tmp 7) (.const (.val (.int .u64 31))))⟩,
    ⟨(some 5), none, .val (.mv (.tmp 8))⟩] [6, 7, 8])
  (.seq (.region [
    ⟨(some 9), none, .val (.mv (.tmp 0))⟩,
    ⟨(some 10), none, .val (.mv (.tmp 5))⟩,
    ⟨(some 11), none, .val (.bin .shl T.uint32 (.tmp 9) (.tmp 10))⟩,
    ⟨(some 12), none, .val (.mv (.tmp 0))⟩,
    ⟨(some 13), none, .val (.mv (.tmp 5))⟩,
    ⟨(some 14), none, .val (.bin .sub T.uint (.const (.val (.int .u64 32))) (.tmp 13))⟩,
    ⟨(some 15), none, .val (.bin .shr T.uint32 (.tmp 12) (.tmp 14))⟩,
    ⟨(some 16), none, .val (.bin .or T.uint32 (.tmp 11) (.tmp 15))⟩,
    ⟨(some 4), none, .val (.mv (.tmp 16))⟩] [9, 10, 11, 12, 13, 14, 15, 16])
  .ret)))⟩
theorem H.math_bits_RotateLeft32 : Has P F.math_bits_RotateLeft32 C.math_bits_RotateLeft32 := ⟨Tryd.f73, Tryd.func73, by kernel_rfl, by kernel_rfl⟩

/-- podium/digest.rotated -/
noncomputable def C.digest_rotated : MFunc := ⟨23, 4, [.tmp 8],
  (.seq (.region [
    ⟨(some 8), none, .val (.mv (.const (.val (.int .u32 0))))⟩] [])
  (.seq (.region [
    ⟨(some 9), none, .val (.mv (.tmp 0))⟩,
    ⟨(some 10), none, .val (.mv (.tmp 1))⟩,
    ⟨(some 11), none, .val (.un .neg (.tmp 10))⟩,
    ⟨(some 12), none, .call (.const (.func (.func F.math_bits_RotateLeft32) [] [])) [(.tmp 9), (.tmp 11)]⟩,
    ⟨(some 13), none, .val (.mv (.tmp 0))⟩,
    ⟨(some 14), none, .val (.mv (.tmp 2))⟩,
    ⟨(some 15), none, .val (.un .neg (.tmp 14))⟩,
    ⟨(some 16), none, .call (.const (.func (.func F.math_bits_RotateLeft32) [] [])) [(.tmp 13), (.tmp 15)]⟩,
    ⟨(some 17), none, .val (.bin .xor T.uint32 (.tmp 12) (.tmp 16))⟩,
    ⟨(some 18), none, .val (.mv (.tmp 0))⟩,
    ⟨(some 19), none, .val (.mv (.tmp 3))⟩,
    ⟨(some 20), none, .val (.un .neg (.tmp 19))⟩,
    ⟨(some 21), none, .call (.const (.func (.func F.math_bits_RotateLeft32) [] [])) [(.tmp 18), (.tmp 20)]⟩,
    ⟨(some 22), none, .val (.bin .xor T.uint32 (.tmp 17) (.tmp 21))⟩,
    ⟨(some 8), none, .val (.mv (.tmp 22))⟩] [9, 10, 11, 12, 13, 14, 15, 16, 17, 18, 19, 20, 21, 22])
  .ret))⟩
theorem H.digest_rotated : Has P F.digest_rotated C.digest_rotated := ⟨Tryd.f74, Tryd.func74, by kernel_rfl, by kernel_rfl⟩

/-- podium/field.sum -/
noncomputable def C.field_sum : MFunc := ⟨19, 1, [.tmp 2],
  (.seq (.region [
    ⟨(some 2), none, .val (.mv (.const (.int 0)))⟩] [])
  (.seq (.region [
    ⟨(some 3), none, .val (.mv (.const (.int 0)))⟩] [])
  (.seq (.seq (.region [
    ⟨(some 6), none, .val (.mv (.tmp 0))⟩,
    ⟨(some 7), none, .val (.len (.tmp 6))⟩,
    ⟨(some 8), none, .val (.mv (.const (.int 0)))⟩] [])
  (.block 0 (.loop (.seq (.region [
    ⟨(some 9), none, .val (.bin .lss T.int (.tmp 8) (.tmp 7))⟩] [])
  (.seq (.cond (.tmp 9)
  .skip
  (.exit 0))
  (.seq (.block 1 (.seq (.region [
    ⟨(some 10), none, .val (.indexAddr 1 (.tmp 6) (.tmp 8))⟩,
    ⟨(some 11), none, .val (.load 1 false (.tmp 10))⟩,
    ⟨(some 5), none, .val (.mv (.tmp 11))⟩] [10, 11])
  (.region [
    ⟨(some 12), none, .val (.mv (.tmp 3))⟩,
    ⟨(some 13), none, .val (.mv (.tmp 5))⟩,
    ⟨(some 14), none, .call (.const (.func (.func F.field_Mod) [] [])) [(.tmp 13)]⟩,
    ⟨(some 15), none, .val (.bin .add T.int (.tmp 12) (.tmp 14))⟩,
    ⟨(some 16), none, .val (.bin .rem T.int (.tmp 15) (.const (.int 1073741789)))⟩,
    ⟨(some 3), none, .val (.mv (.tmp 16))⟩] [12, 13, 14, 15, 16])))
  (.region [
    ⟨(some 17), none, .val (.bin .add T.int (.tmp 8) (.const (.int 1)))⟩,
    ⟨(some 8), none, .val (.mv (.tmp 17))⟩] [17])))))))
  (.seq (.region [
    ⟨(some 18), none, .val (.mv (.tmp 3))⟩,
    ⟨(some 2), none, .val (.mv (.tmp 18))⟩] [18])
  .ret))))⟩
theorem H.field_sum : Has P F.field_sum C.field_sum := ⟨Tryd.f75, Tryd.func75, by kernel_rfl, by kernel_rfl⟩

/-- podium/field.Mul -/
noncomputable def C.field_Mul : MFunc := ⟨11, 2, [.tmp 4],
  (.seq (.region [
    ⟨(some 4), none, .val (.mv (.const (.int 0)))⟩] [])
  (.seq (.region [
    ⟨(some 5), none, .val (.mv (.tmp 0))⟩,
    ⟨(some 6), none, .call (.const (.func (.func F.field_Mod) [] [])) [(.tmp 5)]⟩,
    ⟨(some 7), none, .val (.mv (.tmp 1))⟩,
    ⟨(some 8), none, .call (.const (.func (.func F.field_Mod) [] [])) [(.tmp 7)]⟩,
    ⟨(some 9), none, .val (.bin .mul T.int (.tmp 6) (.tmp 8))⟩,
    ⟨(some 10), none, .val (.bin .rem T.int (.tmp 9) (.const (.int 1073741789)))⟩,
    ⟨(some 4), none, .val (.mv (.tmp 10))⟩] [5, 6, 7, 8, 9, 10])
  .ret))⟩
theorem H.field_Mul : Has P F.field_Mul C.field_Mul := ⟨Tryd.f76, Tryd.func76, by kernel_rfl, by kernel_rfl⟩

/-- podium/podiumref02.word -/
noncomputable def C.podiumref02_word : MFunc := ⟨25, 1, [.tmp 2],
  (.seq (.region [
    ⟨(some 2), none, .val (.mv (.const (.val (.int .u32 0))))⟩] [])
  (.seq (.draw false [
    (.early, ⟨(some 3), none, .val (.mv (.tmp 0))⟩),
    (.early, ⟨(some 4), none, .val (.indexAddr 1 (.tmp 3) (.const (.int 0)))⟩),
    (.early, ⟨(some 5), none, .val (.load 1 false (.tmp 4))⟩),
    (.early, ⟨(some 6), none, .val (.toInt .u32 (.tmp 5))⟩),
    (.early, ⟨(some 7), none, .val (.bin .shl T.uint32 (.tmp 6) (.const (.val (.int .u64 24))))⟩),
    (.early, ⟨(some 8), none, .val (.mv (.tmp 0))⟩),
    (.early, ⟨(some 9), none, .val (.indexAddr 1 (.tmp 8) (.const (.int 1)))⟩),
    (.early, ⟨(some 10), none, .val (.load 1 false (.tmp 9))⟩),
    (.early, ⟨(some 11), none, .val (.toInt .u32 (.tmp 10))⟩),
    (.early, ⟨(some 12), none, .val (.bin .shl T.uint32 (.tmp 11) (.const (.val (.int .u64 16))))⟩),
    (.early, ⟨(some 13), none, .val (.bin .or T.uint32 (.tmp 7) (.tmp 12))⟩),
    (.early, ⟨(some 14), none, .val (.mv (.tmp 0))⟩),
    (.early, ⟨(some 15), none, .val (.indexAddr 1 (.tmp 14) (.const (.int 2)))⟩),
    (.early, ⟨(some 16), none, .val (.load 1 false (.tmp 15))⟩),
    (.early, ⟨(some 17), none, .val (.toInt .u32 (.tmp 16))⟩),
    (.early, ⟨(some 18), none, .val (.bin .shl T.uint32 (.tmp 17) (.const (.val (.int .u64 8))))⟩),
    (.early, ⟨(some 19), none, .val (.bin .or T.uint32 (.tmp 13) (.tmp 18))⟩),
    (.early, ⟨(some 20), none, .val (.mv (.tmp 0))⟩),
    (.early, ⟨(some 21), none, .val (.indexAddr 1 (.tmp 20) (.const (.int 3)))⟩),
    (.early, ⟨(some 22), none, .val (.load 1 false (.tmp 21))⟩),
    (.early, ⟨(some 23), none, .val (.toInt .u32 (.tmp 22))⟩),
    (.early, ⟨(some 24), none, .val (.bin .or T.uint32 (.tmp 19) (.tmp 23))⟩),
    (.early, ⟨(some 2), none, .val (.mv (.tmp 24))⟩)] [3, 4, 5, 6, 7, 8, 9, 10, 11, 12, 13, 14, 15, 16, 17, 18, 19, 20, 21, 22, 23, 24])
  .ret))⟩
theorem H.podiumref02_word : Has P F.podiumref02_word C.podiumref02_word := ⟨Tryd.f77, Tryd.func77, by kernel_rfl, by kernel_rfl⟩

/-- podium/podiumref02.ror -/
noncomputable def C.podiumref02_ror : MFunc := ⟨13, 2, [.tmp 4],
  (.seq (.region [
    ⟨(some 4), none, .val (.mv (.const (.val (.int .u32 0))))⟩] [])
  (.seq (.draw false [
    (.early, ⟨(some 5), none, .val (.mv (.tmp 0))⟩),
    (.early, ⟨(some 6), none, .val (.mv (.tmp 1))⟩),
    (.early, ⟨(some 7), none, .val (.bin .shr T.uint32 (.tmp 5) (.tmp 6))⟩),
    (.early, ⟨(some 8), none, .val (.mv (.tmp 0))⟩),
    (.early, ⟨(some 9), none, .val (.mv (.tmp 1))⟩),
    (.early, ⟨(some 10), none, .val (.bin .sub T.int (.const (.int 32)) (.tmp 9))⟩),
    (.early, ⟨(some 11), none, .val (.bin .shl T.uint32 (.tmp 8) (.tmp 10))⟩),
    (.early, ⟨(some 12), none, .val (.bin .or T.uint32 (.tmp 7) (.tmp 11))⟩),
    (.early, ⟨(some 4), none, .val (.mv (.tmp 12))⟩)] [5, 6, 7, 8, 9, 10, 11, 12])
  .ret))⟩
theorem H.podiumref02_ror : Has P F.podiumref02_ror C.podiumref02_ror := ⟨Tryd.f78, Tryd.func78, by kernel_rfl, by kernel_rfl⟩

/-- podium/podiumref02.numbers -/
noncomputable def C.podiumref02_numbers : MFunc := ⟨2, 0, [.cell 0 64 true],
  (.seq (.region [
    ⟨(some 0), none, .alloc T.t64uint32 ((.val (.int .u32 0)) :: (.val (.int .u32 0)) :: (.val (.int .u32 0)) :: (.val (.int .u32 0)) :: (.val (.int .u32 0)) :: (.val (.int .u32 0)) :: (.val (.int .u32 0)) :: (.val (.int .u32 0)) :: (.val (.int .u32 0)) :: (.val (.int .u32 0)) :: (.val (.int .u32 0)) :: (.val (.int .u32 0)) :: (.val (.int .u32 0)) :: (.val (.int .u32 0)) :: (.val (.int .u32 0)) :: (.val (.int .u32 0)) :: (.val (.int .u32 0)) :: (.val (.int .u32 0)) :: (.val (.int .u32 0)) :: (.val (.int .u32 0)) :: (.val (.int .u32 0)) :: (.val (.int .u32 0)) :: (.val (.int .u32 0)) :: (.val (.int .u32 0)) :: (.val (.int .u32 0)) :: (.val (.int .u32 0)) :: (.val (.int .u32 0)) :: (.val (.int .u32 0)) :: (.val (.int .u32 0)) :: (.val (.int .u32 0)) :: (.val (.int .u32 0)) :: (.val (.int .u32 0)) :: (.val (.int .u32 0)) :: (.val (.int .u32 0)) :: (.val (.int .u32 0)) :: (.val (.int .u32 0)) :: (.val (.int .u32 0)) :: (.val (.int .u32 0)) :: (.val (.int .u32 0)) :: (.val (.int .u32 0)) :: (.val (.int .u32 0)) :: (.val (.int .u32 0)) :: (.val (.int .u32 0)) :: (.val (.int .u32 0)) :: (.val (.int .u32 0)) :: (.val (.int .u32 0)) :: (.val (.int .u32 0)) :: (.val (.int .u32 0)) :: (.val (.int .u32 0)) :: (.val (.int .u32 0)) :: (.val (.int .u32 0)) :: (.val (.int .u32 0)) :: (.val (.int .u32 0)) :: (.val (.int .u32 0)) :: (.val (.int .u32 0)) :: (.val (.int .u32 0)) :: (.val (.int .u32 0)) :: (.val (.int .u32 0)) :: (.val (.int .u32 0)) :: (.val (.int .u32 0)) :: (.val (.int .u32 0)) :: (.val (.int .u32 0)) :: (.val (.int .u32 0)) :: (.val (.int .u32 0)) :: [])⟩] [])
  (.seq (.region [
    ⟨(some 1), none, .val (.build ((.val (.int .u32 0)) :: (.val (.int .u32 0)) :: (.val (.int .u32 0)) :: (.val (.int .u32 0)) :: (.val (.int .u32 0)) :: (.val (.int .u32 0)) :: (.val (.int .u32 0)) :: (.val (.int .u32 0)) :: (.val (.int .u32 0)) :: (.val (.int .u32 0)) :: (.val (.int .u32 0)) :: (.val (.int .u32 0)) :: (.val (.int .u32 0)) :: (.val (.int .u32 0)) :: (.val (.int .u32 0)) :: (.val (.int .u32 0)) :: (.val (.int .u32 0)) :: (.val (.int .u32 0)) :: (.val (.int .u32 0)) :: (.val (.int .u32 0)) :: (.val (.int .u32 0)) :: (.val (.int .u32 0)) :: (.val (.int .u32 0)) :: (.val (.int .u32 0)) :: (.val (.int .u32 0)) :: (.val (.int .u32 0)) :: (.val (.int .u32 0)) :: (.val (.int .u32 0)) :: (.val (.int .u32 0)) :: (.val (.int .u32 0)) :: (.val (.int .u32 0)) :: (.val (.int .u32 0)) :: (.val (.int .u32 0)) :: (.val (.int .u32 0)) :: (.val (.int .u32 0)) :: (.val (.int .u32 0)) :: (.val (.int .u32 0)) :: (.val (.int .u32 0)) :: (.val (.int .u32 0)) :: (.val (.int .u32 0)) :: (.val (.int .u32 0)) :: (.val (.int .u32 0)) :: (.val (.int .u32 0)) :: (.val (.int .u32 0)) :: (.val (.int .u32 0)) :: (.val (.int .u32 0)) :: (.val (.int .u32 0)) :: (.val (.int .u32 0)) :: (.val (.int .u32 0)) :: (.val (.int .u32 0)) :: (.val (.int .u32 0)) :: (.val (.int .u32 0)) :: (.val (.int .u32 0)) :: (.val (.int .u32 0)) :: (.val (.int .u32 0)) :: (.val (.int .u32 0)) :: (.val (.int .u32 0)) :: (.val (.int .u32 0)) :: (.val (.int .u32 0)) :: (.val (.int .u32 0)) :: (.val (.int .u32 0)) :: (.val (.int .u32 0)) :: (.val (.int .u32 0)) :: (.val (.int .u32 0)) :: []) ((0, 1, (.const (.val (.int .u32 1116352408)))) :: (1, 1, (.const (.val (.int .u32 1899447441)))) :: (2, 1, (.const (.val (.int .u32 3049323471)))) :: (3, 1, (.const (.val (.int .u32 3921009573)))) :: (4, 1, (.const (.val (.int .u32 961987163)))) :: (5, 1, (.const (.val (.int .u32 1508970993)))) :: (6, 1, (.const (.val (.int .u32 2453635748)))) :: (7, 1, (.const (.val (.int .u32 2870763221)))) :: (8, 1, (.const (.val (.int .u32 3624381080)))) :: (9, 1, (.const (.val (.int .u32 310598401)))) :: (10, 1, (.const (.val (.int .u32 607225278)))) :: (11, 1, (.const (.val (.int .u32 1426881987)))) :: (12, 1, (.const (.val (.int .u32 1925078388)))) :: (13, 1, (.const (.val (.int .u32 2162078206)))) :: (14, 1, (.const (.val (.int .u32 2614888103)))) :: (15, 1, (.const (.val (.int .u32 3248222580)))) :: (16, 1, (.const (.val (.int .u32 3835390401)))) :: (17, 1, (.const (.val (.int .u32 4022224774)))) :: (18, 1, (.const (.val (.int .u32 264347078)))) :: (19, 1, (.const (.val (.int .u32 604807628)))) :: (20, 1, (.const (.val (.int .u32 770255983)))) :: (21, 1, (.const (.val (.int .u32 1249150122)))) :: (22, 1, (.const (.val (.int .u32 1555081692)))) :: (23, 1, (.const (.val (.int .u32 1996064986)))) :: (24, 1, (.const (.val (.int .u32 2554220882)))) :: (25, 1, (.const (.val (.int .u32 2821834349)))) :: (26, 1, (.const (.val (.int .u32 2952996808)))) :: (27, 1, (.const (.val (.int .u32 3210313671)))) :: (28, 1, (.const (.val (.int .u32 3336571891)))) :: (29, 1, (.const (.val (.int .u32 3584528711)))) :: (30, 1, (.const (.val (.int .u32 113926993)))) :: (31, 1, (.const (.val (.int .u32 338241895)))) :: (32, 1, (.const (.val (.int .u32 666307205)))) :: (33, 1, (.const (.val (.int .u32 773529912)))) :: (34, 1, (.const (.val (.int .u32 1294757372)))) :: (35, 1, (.const (.val (.int .u32 1396182291)))) :: (36, 1, (.const (.val (.int .u32 1695183700)))) :: (37, 1, (.const (.val (.int .u32 1986661051)))) :: (38, 1, (.const (.val (.int .u32 2177026350)))) :: (39, 1, (.const (.val (.int .u32 2456956037)))) :: (40, 1, (.const (.val (.int .u32 2730485921)))) :: (41, 1, (.const (.val (.int .u32 2820302411)))) :: (42, 1, (.const (.val (.int .u32 3259730800)))) :: (43, 1, (.const (.val (.int .u32 3345764771)))) :: (44, 1, (.const (.val (.int .u32 3516065817)))) :: (45, 1, (.const (.val (.int .u32 3600352804)))) :: (46, 1, (.const (.val (.int .u32 4094571909)))) :: (47, 1, (.const (.val (.int .u32 275423344)))) :: (48, 1, (.const (.val (.int .u32 430227734)))) :: (49, 1, (.const (.val (.int .u32 506948616)))) :: (50, 1, (.const (.val (.int .u32 659060556)))) :: (51, 1, (.const (.val (.int .u32 883997877)))) :: (52, 1, (.const (.val (.int .u32 958139571)))) :: (53, 1, (.const (.val (.int .u32 1322822218)))) :: (54, 1, (.const (.val (.int .u32 1537002063)))) :: (55, 1, (.const (.val (.int .u32 1747873779)))) :: (56, 1, (.const (.val (.int .u32 1955562222)))) :: (57, 1, (.const (.val (.int .u32 2024104815)))) :: (58, 1, (.const (.val (.int .u32 2227730452)))) :: (59, 1, (.const (.val (.int .u32 2361852424)))) :: (60, 1, (.const (.val (.int .u32 2428436474)))) :: (61, 1, (.const (.val (.int .u32 2756734187)))) :: (62, 1, (.const (.val (.int .u32 3204031479)))) :: (63, 1, (.const (.val (.int .u32 3329325298)))) :: []))⟩,
    ⟨none, none, .store 64 (.tmp 0) (.tmp 1)⟩] [1])
  .ret))⟩
theorem H.podiumref02_numbers : Has P F.podiumref02_numbers C.podiumref02_numbers := ⟨Tryd.f79, Tryd.func79, by kernel_rfl, by kernel_rfl⟩

/-- podium/podiumref01.Formed -/
noncomputable def C.podiumref01_Formed : MFunc := ⟨52, 1, [.tmp 2],
  (.seq (.region [
    ⟨(some 1), none, .box T.apiValue (.tmp 0)⟩,
    ⟨(some 2), none, .val (.mv (.const (.bool false)))⟩] [])
  (.seq (.seq (.region [
    ⟨(some 4), none, .val (.fieldAddr 0 (.tmp 1))⟩,
    ⟨(some 5), none, .val (.load 1 false (.tmp 4))⟩] [4])
  (.block 0 (.seq (.region [
    ⟨(some 7), none, .val (.bin .eql T.int (.tmp 5) (.const (.int 1)))⟩,
    ⟨(some 6), none, .val (.mv (.tmp 7))⟩] [7])
  (.cond (.tmp 6)
  (.seq (.region [
    ⟨(some 8), none, .val (.fieldAddr 2 (.tmp 1))⟩,
    ⟨(some 9), none, .val (.load 1 false (.tmp 8))⟩,
    ⟨(some 10), none, .val (.bin .eql T.string (.tmp 9) (.const (.val (.string ⟨#[]⟩))))⟩,
    ⟨(some 11), none, .val (.mv (.tmp 10))⟩,
    ⟨(some 12), (some (11, true)), .val (.fieldAddr 3 (.tmp 1))⟩,
    ⟨(some 13), (some (11, true)), .val (.load 1 false (.tmp 12))⟩,
    ⟨(some 14), (some (11, true)), .val (.len (.tmp 13))⟩,
    ⟨(some 15), (some (11, true)), .val (.bin .eql T.int (.tmp 14) (.const (.int 0)))⟩,
    ⟨(some 16), none, .val (.pick (.tmp 11) (.tmp 15) (.const (.bool false)))⟩,
    ⟨(some 2), none, .val (.mv (.tmp 16))⟩] [8, 9, 10, 11, 12, 13, 14, 15, 16])
  .ret)
  (.seq (.region [
    ⟨(some 18), none, .val (.bin .eql T.int (.tmp 5) (.const (.int 2)))⟩,
    ⟨(some 17), none, .val (.mv (.tmp 18))⟩] [18])
  (.cond (.tmp 17)
  (.seq (.region [
    ⟨(some 19), none, .val (.fieldAddr 1 (.tmp 1))⟩,
    ⟨(some 20), none, .val (.load 1 false (.tmp 19))⟩,
    ⟨(some 21), none, .val (.bin .eql T.int (.tmp 20) (.const (.int 0)))⟩,
    ⟨(some 22), none, .val (.mv (.tmp 21))⟩,
    ⟨(some 23), (some (22, true)), .val (.fieldAddr 3 (.tmp 1))⟩,
    ⟨(some 24), (some (22, true)), .val (.load 1 false (.tmp 23))⟩,
    ⟨(some 25), (some (22, true)), .val (.len (.tmp 24))⟩,
    ⟨(some 26), (some (22, true)), .val (.bin .eql T.int (.tmp 25) (.const (.int 0)))⟩,
    ⟨(some 27), none, .val (.pick (.tmp 22) (.tmp 26) (.const (.bool false)))⟩,
    ⟨(some 2), none, .val (.mv (.tmp 27))⟩] [19, 20, 21, 22, 23, 24, 25, 26, 27])
  .ret)
  (.seq (.region [
    ⟨(some 29), none, .val (.bin .eql T.int (.tmp 5) (.const (.int 3)))⟩,
    ⟨(some 28), none, .val (.mv (.tmp 29))⟩] [29])
  (.cond (.tmp 28)
  (.seq (.seq (.region [
    ⟨(some 3), none, .val (.mv (.const (.int 0)))⟩] [])
  (.block 1 (.loop (.seq (.seq (.region [
    ⟨(some 30), none, .val (.mv (.tmp 3))⟩,
    ⟨(some 31), none, .val (.fieldAddr 3 (.tmp 1))⟩,
    ⟨(some 32), none, .val (.load 1 false (.tmp 31))⟩,
    ⟨(some 33), none, .val (.len (.tmp 32))⟩,
    ⟨(some 34), none, .val (.bin .lss T.int (.tmp 30) (.tmp 33))⟩] [30, 31, 32, 33])
  (.cond (.tmp 34)
  .skip
  (.exit 1)))
  (.seq (.block 2 (.seq (.region [
    ⟨(some 37), none, .val (.fieldAddr 3 (.tmp 1))⟩,
    ⟨(some 38), none, .val (.load 1 false (.tmp 37))⟩,
    ⟨(some 39), none, .val (.mv (.tmp 3))⟩,
    ⟨(some 40), none, .val (.indexAddr 4 (.tmp 38) (.tmp 39))⟩,
    ⟨(some 41), none, .val (.load 4 true (.tmp 40))⟩,
    ⟨(some 42), none, .call (.const (.func (.func F.podiumref01_Formed) [] [])) [(.tmp 41)]⟩,
    ⟨(some 43), none, .val (.un .not (.tmp 42))⟩] [37, 38, 39, 40, 41, 42])
  (.cond (.tmp 43)
  (.seq (.region [
    ⟨(some 2), none, .val (.mv (.const (.bool false)))⟩] [])
  .ret)
  .skip)))
  (.region [
    ⟨(some 35), none, .val (.mv (.tmp 3))⟩,
    ⟨(some 36), none, .val (.bin .add T.int (.tmp 35) (.const (.int 1)))⟩,
    ⟨(some 3), none, .val (.mv (.tmp 36))⟩] [35, 36]))))))
  (.seq (.region [
    ⟨(some 44), none, .val (.fieldAddr 1 (.tmp 1))⟩,
    ⟨(some 45), none, .val (.load 1 false (.tmp 44))⟩,
    ⟨(some 46), none, .val (.bin .eql T.int (.tmp 45) (.const (.int 0)))⟩,
    ⟨(some 47), none, .val (.mv (.tmp 46))⟩,
    ⟨(some 48), (some (47, true)), .val (.fieldAddr 2 (.tmp 1))⟩,
    ⟨(some 49), (some (47, true)), .val (.load 1 false (.tmp 48))⟩,
    ⟨(some 50), (some (47, true)), .val (.bin .eql T.string (.tmp 49) (.const (.val (.string ⟨#[]⟩))))⟩,
    ⟨(some 51), none, .val (.pick (.tmp 47) (.tmp 50) (.const (.bool false)))⟩,
    ⟨(some 2), none, .val (.mv (.tmp 51))⟩] [44, 45, 46, 47, 48, 49, 50, 51])
  .ret))
  .skip))))))))
  (.seq (.region [
    ⟨(some 2), none, .val (.mv (.const (.bool false)))⟩] [])
  .ret)))⟩
theorem H.podiumref01_Formed : Has P F.podiumref01_Formed C.podiumref01_Formed := ⟨Tryd.f80, Tryd.func80, by kernel_rfl, by kernel_rfl⟩

/-- podium/podiumref01.Depth -/
noncomputable def C.podiumref01_Depth : MFunc := ⟨25, 1, [.tmp 2],
  (.seq (.region [
    ⟨(some 1), none, .box T.apiValue (.tmp 0)⟩,
    ⟨(some 2), none, .val (.mv (.const (.int 0)))⟩] [])
  (.seq (.seq (.region [
    ⟨(some 5), none, .val (.fieldAddr 0 (.tmp 1))⟩,
    ⟨(some 6), none, .val (.load 1 false (.tmp 5))⟩,
    ⟨(some 7), none, .val (.bin .neq T.int (.tmp 6) (.const (.int 3)))⟩] [5, 6])
  (.cond (.tmp 7)
  (.seq (.region [
    ⟨(some 2), none, .val (.mv (.const (.int 0)))⟩] [])
  .ret)
  .skip))
  (.seq (.region [
    ⟨(some 3), none, .val (.mv (.const (.int 0)))⟩] [])
  (.seq (.seq (.region [
    ⟨(some 4), none, .val (.mv (.const (.int 0)))⟩] [])
  (.block 0 (.loop (.seq (.seq (.region [
    ⟨(some 8), none, .val (.mv (.tmp 4))⟩,
    ⟨(some 9), none, .val (.fieldAddr 3 (.tmp 1))⟩,
    ⟨(some 10), none, .val (.load 1 false (.tmp 9))⟩,
    ⟨(some 11), none, .val (.len (.tmp 10))⟩,
    ⟨(some 12), none, .val (.bin .lss T.int (.tmp 8) (.tmp 11))⟩] [8, 9, 10, 11])
  (.cond (.tmp 12)
  .skip
  (.exit 0)))
  (.seq (.block 1 (.region [
    ⟨(some 15), none, .val (.mv (.tmp 3))⟩,
    ⟨(some 16), none, .val (.fieldAddr 3 (.tmp 1))⟩,
    ⟨(some 17), none, .val (.load 1 false (.tmp 16))⟩,
    ⟨(some 18), none, .val (.mv (.tmp 4))⟩,
    ⟨(some 19), none, .val (.indexAddr 4 (.tmp 17) (.tmp 18))⟩,
    ⟨(some 20), none, .val (.load 4 true (.tmp 19))⟩,
    ⟨(some 21), none, .call (.const (.func (.func F.podiumref01_Depth) [] [])) [(.tmp 20)]⟩,
    ⟨(some 22), none, .val (.minmax true [(.tmp 15), (.tmp 21)])⟩,
    ⟨(some 3), none, .val (.mv (.tmp 22))⟩] [15, 16, 17, 18, 19, 20, 21, 22]))
  (.region [
    ⟨(some 13), none, .val (.mv (.tmp 4))⟩,
    ⟨(some 14), none, .val (.bin .add T.int (.tmp 13) (.const (.int 1)))⟩,
    ⟨(some 4), none, .val (.mv (.tmp 14))⟩] [13, 14]))))))
  (.seq (.region [
    ⟨(some 23), none, .val (.mv (.tmp 3))⟩,
    ⟨(some 24), none, .val (.bin .add T.int (.tmp 23) (.const (.int 1)))⟩,
    ⟨(some 2), none, .val (.mv (.tmp 24))⟩] [23, 24])
  .ret)))))⟩
theorem H.podiumref01_Depth : Has P F.podiumref01_Depth C.podiumref01_Depth := ⟨Tryd.f81, Tryd.func81, by kernel_rfl, by kernel_rfl⟩

/-- podium/podiumref01.numeral -/
noncomputable def C.podiumref01_numeral : MFunc := ⟨17, 1, [.tmp 2],
  (.seq (.region [
    ⟨(some 2), none, .val (.mv (.const .nil))⟩] [])
  (.seq (.seq (.region [
    ⟨(some 3), none, .val (.mv (.tmp 0))⟩,
    ⟨(some 4), none, .val (.bin .lss T.uint64 (.tmp 3) (.const (.val (.int .u64 128))))⟩] [3])
  (.cond (.tmp 4)
  (.seq (.region [
    ⟨(some 5), none, .val (.mv (.tmp 0))⟩,
    ⟨(some 6), none, .val (.toInt .u8 (.tmp 5))⟩,
    ⟨(some 7), none, .val (.buildSlice T.uint8 1 [(.val (.int .u8 0))] [(0, 1, (.tmp 6))])⟩,
    ⟨(some 2), none, .val (.mv (.tmp 7))⟩] [5, 6, 7])
  .ret)
  .skip))
  (.seq (.region [
    ⟨(some 8), none, .val (.mv (.tmp 0))⟩,
    ⟨(some 9), none, .val (.bin .rem T.uint64 (.tmp 8) (.const (.val (.int .u64 128))))⟩,
    ⟨(some 10), none, .val (.bin .add T.uint64 (.tmp 9) (.const (.val (.int .u64 128))))⟩,
    ⟨(some 11), none, .val (.toInt .u8 (.tmp 10))⟩,
    ⟨(some 12), none, .val (.buildSlice T.uint8 1 [(.val (.int .u8 0))] [(0, 1, (.tmp 11))])⟩,
    ⟨(some 13), none, .val (.mv (.tmp 0))⟩,
    ⟨(some 14), none, .val (.bin .quo T.uint64 (.tmp 13) (.const (.val (.int .u64 128))))⟩,
    ⟨(some 15), none, .call (.const (.func (.func F.podiumref01_numeral) [] [])) [(.tmp 14)]⟩,
    ⟨(some 16), none, .append T.uint8 1 1 (.tmp 12) (.tmp 15)⟩,
    ⟨(some 2), none, .val (.mv (.tmp 16))⟩] [8, 9, 10, 11, 12, 13, 14, 15, 16])
  .ret)))⟩
theorem H.podiumref01_numeral : Has P F.podiumref01_numeral C.podiumref01_numeral := ⟨Tryd.f82, Tryd.func82, by kernel_rfl, by kernel_rfl⟩

/-- podium/podiumref01.unsigned -/
noncomputable def C.podiumref01_unsigned : MFunc := ⟨14, 1, [.tmp 2],
  (.seq (.region [
    ⟨(some 2), none, .val (.mv (.const (.val (.int .u64 0))))⟩] [])
  (.seq (.seq (.region [
    ⟨(some 3), none, .val (.mv (.tmp 0))⟩,
    ⟨(some 4), none, .val (.bin .geq T.int (.tmp 3) (.const (.int 0)))⟩] [3])
  (.cond (.tmp 4)
  (.seq (.region [
    ⟨(some 5), none, .val (.mv (.tmp 0))⟩,
    ⟨(some 6), none, .val (.toInt .u64 (.tmp 5))⟩,
    ⟨(some 7), none, .val (.bin .mul T.uint64 (.const (.val (.int .u64 2))) (.tmp 6))⟩,
    ⟨(some 2), none, .val (.mv (.tmp 7))⟩] [5, 6, 7])
  .ret)
  .skip))
  (.seq (.region [
    ⟨(some 8), none, .val (.mv (.tmp 0))⟩,
    ⟨(some 9), none, .val (.bin .add T.int (.tmp 8) (.const (.int 1)))⟩,
    ⟨(some 10), none, .val (.un .neg (.tmp 9))⟩,
    ⟨(some 11), none, .val (.toInt .u64 (.tmp 10))⟩,
    ⟨(some 12), none, .val (.bin .mul T.uint64 (.const (.val (.int .u64 2))) (.tmp 11))⟩,
    ⟨(some 13), none, .val (.bin .add T.uint64 (.tmp 12) (.const (.val (.int .u64 1))))⟩,
    ⟨(some 2), none, .val (.mv (.tmp 13))⟩] [8, 9, 10, 11, 12, 13])
  .ret)))⟩
theorem H.podiumref01_unsigned : Has P F.podiumref01_unsigned C.podiumref01_unsigned := ⟨Tryd.f83, Tryd.func83, by kernel_rfl, by kernel_rfl⟩

/-- podium/field.Mod -/
noncomputable def C.field_Mod : MFunc := ⟨10, 1, [.tmp 2],
  (.seq (.region [
    ⟨(some 2), none, .val (.mv (.const (.int 0)))⟩] [])
  (.seq (.seq (.region [
    ⟨(some 3), none, .val (.mv (.tmp 0))⟩,
    ⟨(some 4), none, .val (.bin .rem T.int (.tmp 3) (.const (.int 1073741789)))⟩,
    ⟨(some 2), none, .val (.mv (.tmp 4))⟩] [3, 4])
  (.seq (.region [
    ⟨(some 5), none, .val (.mv (.tmp 2))⟩,
    ⟨(some 6), none, .val (.bin .lss T.int (.tmp 5) (.const (.int 0)))⟩] [5])
  (.cond (.tmp 6)
  (.region [
    ⟨(some 7), none, .val (.mv (.tmp 2))⟩,
    ⟨(some 8), none, .val (.bin .add T.int (.tmp 7) (.const (.int 1073741789)))⟩,
    ⟨(some 2), none, .val (.mv (.tmp 8))⟩] [7, 8])
  .skip)))
  (.seq (.region [
    ⟨(some 9), none, .val (.mv (.tmp 2))⟩,
    ⟨(some 2), none, .val (.mv (.tmp 9))⟩] [9])
  .ret)))⟩
theorem H.field_Mod : Has P F.field_Mod C.field_Mod := ⟨Tryd.f84, Tryd.func84, by kernel_rfl, by kernel_rfl⟩

end Go.Proofs.YtmgpkcpalpejcaaDoor
