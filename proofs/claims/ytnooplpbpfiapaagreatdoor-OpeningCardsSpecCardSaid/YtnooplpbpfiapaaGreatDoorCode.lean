/- The compact code of this seat's functions (printed by a program of ours out of the translation; each is checked against the loaded program). -/
import Derived.Test.YtnooplpbpfiapaaGreatDoorProg
import Derived.Test.YtnooplpbpfiapaaGreatDoorLRd
set_option maxRecDepth 100000
namespace Go.Proofs.YtnooplpbpfiapaaGreatDoor
open Go.Pv
noncomputable abbrev P : Program := Tryz.prog
theorem q5n : P.follows .mixedOrders = true := by kernel_rfl
namespace T
abbrev int : Nat := 3
abbrev bool : Nat := 4
abbrev uint8 : Nat := 5
abbrev string : Nat := 9
abbrev interface : Nat := 20
abbrev Lint : Nat := 22
abbrev apiSession : Nat := 27
abbrev apiDigest : Nat := 29
abbrev apiSealed : Nat := 31
abbrev apiKeyShare : Nat := 33
abbrev apiShown : Nat := 35
abbrev apiAct : Nat := 37
abbrev funcbool : Nat := 38
abbrev apiErrno : Nat := 41
abbrev apiOpened : Nat := 55
abbrev apiPoint : Nat := 66
abbrev LapiPoint : Nat := 67
abbrev Luint8 : Nat := 76
abbrev q47 : Nat := 86
abbrev funcintbool : Nat := 123
abbrev q49 : Nat := 127
abbrev q5a : Nat := 131
abbrev q5b : Nat := 135
abbrev openingstop : Nat := 138
abbrev q48 : Nat := 145
abbrev apiValue : Nat := 158
abbrev codecwriter : Nat := 182
abbrev uint : Nat := 190
abbrev q5c : Nat := 200
abbrev uint64 : Nat := 202
abbrev uint32 : Nat := 204
abbrev t8uint32 : Nat := 205
abbrev digeststate : Nat := 206
abbrev t4bool : Nat := 214
abbrev t64uint32 : Nat := 216
end T
namespace F
abbrev q06 : Nat := 4
abbrev q35 : Nat := 10
abbrev q4c : Nat := 11
abbrev q39 : Nat := 13
abbrev q4b : Nat := 15
abbrev q3k : Nat := 17
abbrev q12 : Nat := 20
abbrev q3j : Nat := 22
abbrev q2n : Nat := 23
abbrev q05 : Nat := 24
abbrev q29 : Nat := 25
abbrev q3m : Nat := 26
abbrev q25 : Nat := 27
abbrev q4x : Nat := 30
abbrev q14 : Nat := 31
abbrev q40 : Nat := 32
abbrev q4w : Nat := 34
abbrev q4d : Nat := 36
abbrev q3p : Nat := 37
abbrev q26 : Nat := 38
abbrev q1m : Nat := 39
abbrev q0x : Nat := 40
abbrev q3l : Nat := 41
abbrev q0t : Nat := 42
abbrev q0y : Nat := 43
abbrev q1n : Nat := 44
abbrev q1o : Nat := 45
abbrev q1g : Nat := 46
abbrev q1p : Nat := 47
abbrev q1q : Nat := 53
abbrev q36 : Nat := 54
abbrev q3q : Nat := 55
abbrev q3z : Nat := 56
abbrev q3r : Nat := 57
abbrev q09 : Nat := 58
abbrev q2o : Nat := 59
abbrev q4v : Nat := 60
abbrev q0q : Nat := 61
abbrev q4r : Nat := 62
abbrev q33 : Nat := 63
abbrev q4p : Nat := 64
abbrev q3e : Nat := 65
abbrev q4u : Nat := 66
abbrev q4l : Nat := 67
abbrev q4g : Nat := 68
abbrev q2j : Nat := 69
abbrev q1b : Nat := 70
abbrev q4m : Nat := 71
abbrev q4a : Nat := 72
abbrev q07 : Nat := 74
abbrev q1v : Nat := 75
abbrev q3t : Nat := 76
abbrev q0z : Nat := 77
abbrev q37 : Nat := 78
abbrev q1f : Nat := 79
abbrev q1w : Nat := 80
abbrev q19 : Nat := 81
abbrev q2k : Nat := 82
abbrev q2l : Nat := 83
abbrev q1r : Nat := 84
abbrev q1x : Nat := 85
abbrev q13 : Nat := 86
abbrev q2b : Nat := 87
abbrev q2a : Nat := 88
abbrev q1i : Nat := 89
abbrev q1y : Nat := 90
abbrev q2d : Nat := 91
abbrev q2c : Nat := 92
abbrev q2x : Nat := 93
abbrev q1s : Nat := 94
abbrev q1z : Nat := 95
abbrev q1h : Nat := 96
abbrev q2z : Nat := 97
abbrev q1a : Nat := 98
abbrev q2p : Nat := 99
abbrev q1t : Nat := 100
abbrev q2q : Nat := 101
abbrev q2f : Nat := 102
abbrev q1c : Nat := 103
abbrev q15 : Nat := 104
abbrev q2g : Nat := 105
abbrev q2h : Nat := 106
abbrev q4e : Nat := 107
abbrev q3a : Nat := 108
abbrev q03 : Nat := 109
abbrev q18 : Nat := 110
abbrev q2r : Nat := 111
abbrev q4i : Nat := 112
abbrev q4n : Nat := 113
abbrev q4j : Nat := 114
abbrev q3w : Nat := 115
abbrev q0n : Nat := 116
abbrev q3s : Nat := 117
abbrev q4q : Nat := 118
abbrev q3i : Nat := 119
abbrev q4h : Nat := 120
abbrev q38 : Nat := 121
abbrev q20 : Nat := 122
abbrev q0p : Nat := 123
abbrev q1k : Nat := 124
abbrev q1u : Nat := 125
abbrev q4y : Nat := 126
abbrev q0i : Nat := 127
abbrev q1d : Nat := 128
abbrev q0r : Nat := 129
abbrev q10 : Nat := 130
abbrev q4s : Nat := 131
abbrev q0d : Nat := 132
abbrev q0j : Nat := 133
abbrev q02 : Nat := 134
abbrev q1j : Nat := 135
abbrev q0a : Nat := 136
abbrev q0f : Nat := 137
abbrev q0u : Nat := 138
abbrev q0e : Nat := 139
abbrev q0l : Nat := 140
abbrev q08 : Nat := 141
abbrev q0g : Nat := 142
abbrev q3x : Nat := 143
abbrev q0h : Nat := 144
abbrev q11 : Nat := 145
abbrev q3g : Nat := 146
abbrev q2i : Nat := 147
abbrev q2s : Nat := 148
abbrev q21 : Nat := 149
abbrev q3n : Nat := 150
abbrev q3u : Nat := 151
abbrev q30 : Nat := 152
abbrev q22 : Nat := 153
abbrev q04 : Nat := 154
abbrev q4z : Nat := 155
abbrev q4f : Nat := 156
abbrev q4k : Nat := 157
abbrev q16 : Nat := 158
abbrev q0v : Nat := 159
abbrev q17 : Nat := 160
abbrev q0m : Nat := 161
abbrev q0w : Nat := 162
abbrev q42 : Nat := 163
abbrev q45 : Nat := 164
abbrev q41 : Nat := 165
abbrev q44 : Nat := 166
abbrev q43 : Nat := 167
abbrev q46 : Nat := 168
abbrev q23 : Nat := 169
abbrev q2v : Nat := 170
abbrev q24 : Nat := 171
abbrev q2y : Nat := 172
abbrev q00 : Nat := 173
abbrev q2u : Nat := 174
abbrev q3f : Nat := 175
abbrev q2w : Nat := 176
abbrev q1e : Nat := 177
abbrev q3b : Nat := 178
abbrev q34 : Nat := 179
abbrev q4o : Nat := 180
abbrev q3c : Nat := 181
abbrev q2t : Nat := 182
abbrev q01 : Nat := 183
abbrev q3y : Nat := 184
abbrev q2e : Nat := 185
abbrev q2m : Nat := 186
abbrev q3v : Nat := 190
abbrev q31 : Nat := 191
abbrev q3d : Nat := 192
abbrev q0k : Nat := 193
abbrev q32 : Nat := 194
abbrev q4t : Nat := 195
abbrev q0c : Nat := 196
abbrev q27 : Nat := 197
abbrev q3o : Nat := 201
abbrev q0b : Nat := 202
abbrev q3h : Nat := 203
abbrev q0o : Nat := 204
abbrev q0s : Nat := 205
abbrev q1l : Nat := 206
abbrev q28 : Nat := 207
end F
namespace Z
abbrev t (n : Nat) : MX := .tmp n
abbrev c (n : Int) : MX := .const (.int n)
abbrev v (d : Nat) (x : MVal) : MInst := ⟨some d, none, .val x⟩
abbrev w (d g : Nat) (x : MVal) : MInst := ⟨some d, some (g, true), .val x⟩
abbrev z (d g : Nat) (x : MVal) : MInst := ⟨some d, some (g, false), .val x⟩
abbrev m (d s : Nat) : MInst := ⟨some d, none, .val (.mv (.tmp s))⟩
abbrev i (d : Nat) (n : Int) : MInst := ⟨some d, none, .val (.mv (.const (.int n)))⟩
abbrev b (d : Nat) (x : Bool) : MInst := ⟨some d, none, .val (.mv (.const (.bool x)))⟩
abbrev g (d k s : Nat) : MInst := ⟨some d, none, .val (.fieldAddr k (.tmp s))⟩
abbrev l (d s : Nat) : MInst := ⟨some d, none, .val (.load 1 false (.tmp s))⟩
abbrev L (d k s : Nat) : MInst := ⟨some d, none, .val (.load k true (.tmp s))⟩
abbrev x (d k s : Nat) : MInst := ⟨some d, none, .val (.extract k (.tmp s))⟩
abbrev y (k a b : Nat) : MInst := ⟨none, none, .store k (.tmp a) (.tmp b)⟩
abbrev f (d : Nat) (n : FuncId) (u : List MX) : MInst := ⟨some d, none, .call (.const (.func (.func n) [] [])) u⟩
abbrev p (a : Nat) (n : Int) : MVal := .bin .add T.int (.tmp a) (.const (.int n))
abbrev k (a b : Nat) : MVal := .pick (.tmp a) (.tmp b) (.const (.bool false))
abbrev j (a b : Nat) : MVal := .pick (.tmp a) (.const (.bool true)) (.tmp b)
abbrev I (k a b : Nat) : MVal := .indexAddr k (.tmp a) (.tmp b)
abbrev n (a : Nat) : MVal := .len (.tmp a)
abbrev G (k a : Nat) : MVal := .fieldAddr k (.tmp a)
abbrev D (a : Nat) : MVal := .load 1 false (.tmp a)
abbrev E (k a : Nat) : MVal := .load k true (.tmp a)
abbrev M (a : Nat) : MVal := .mv (.tmp a)
abbrev N (a : Nat) : MVal := .un .not (.tmp a)
abbrev A (a b : Nat) : MVal := .bin .lss T.int (.tmp a) (.tmp b)
abbrev B (a b : Nat) : MVal := .bin .eql T.int (.tmp a) (.tmp b)
abbrev s (a b : MCode) : MCode := .seq a b
abbrev d (n : Nat) (a b : MCode) : MCode := .cond (.tmp n) a b
abbrev a (x : MInst) : DFlag × MInst := (.late, x)
abbrev e (x : MInst) : DFlag × MInst := (.early, x)
abbrev h (x : MInst) : DFlag × MInst := (.hard, x)
abbrev o (k : List PV) : List PV := .val (.int .u8 0) :: .val (.int .u8 0) :: .val (.int .u8 0) :: .val (.int .u8 0) :: .val (.int .u8 0) :: .val (.int .u8 0) :: .val (.int .u8 0) :: .val (.int .u8 0) :: .val (.int .u8 0) :: .val (.int .u8 0) :: .val (.int .u8 0) :: .val (.int .u8 0) :: .val (.int .u8 0) :: .val (.int .u8 0) :: .val (.int .u8 0) :: .val (.int .u8 0) :: .val (.int .u8 0) :: .val (.int .u8 0) :: .val (.int .u8 0) :: .val (.int .u8 0) :: .val (.int .u8 0) :: .val (.int .u8 0) :: .val (.int .u8 0) :: .val (.int .u8 0) :: .val (.int .u8 0) :: .val (.int .u8 0) :: .val (.int .u8 0) :: .val (.int .u8 0) :: .val (.int .u8 0) :: .val (.int .u8 0) :: .val (.int .u8 0) :: .val (.int .u8 0) :: k
abbrev r (is : List MInst) (k : List Nat) : MCode := .region is k
abbrev q0 : List PV := [(.int 0), (.int 0), (.int 0), .nil, (.int 0), (.int 0), (.int 0), .nil, .nil, .nil]
abbrev q1 : List PV := [(.int 0), (.int 0), (.int 0), (.int 0)]
abbrev q2 : List PV := [(.int 0), (.int 0)]
abbrev q3 : List PV := [(.int 0), .nil]
end Z
open Z
noncomputable def C.q06 : MFunc := ⟨30, 1, [.tmp 2],
 (s (r [
 ⟨some 1, none, .box T.apiSession (t 0)⟩,
 b 2 false] [])
 (s (s (r [
 f 7 F.q35 [],
 v 8 (N 7)] [7])
 (d 8
 (s (r [
 b 2 false] [])
 .ret)
 .skip))
 (s (s (r [
 L 9 10 1,
 f 10 F.q4c [(t 9)],
 v 11 (N 10)] [9, 10])
 (d 11
 (s (r [
 b 2 true] [])
 .ret)
 .skip))
 (s (r [
 L 13 10 1,
 f 14 F.q3j [(t 13)],
 m 12 14,
 x 15 0 12,
 x 16 1 12,
 m 3 15,
 m 4 16] [13, 14, 12, 15, 16])
 (s (r [
 L 18 10 1,
 f 19 F.q2n [(t 18)],
 m 17 19,
 x 20 0 17,
 x 21 1 17,
 m 5 20,
 m 6 21] [18, 19, 17, 20, 21])
 (s (r [
 m 22 3,
 m 23 5,
 f 24 F.q05 [(t 22), (t 23)],
 m 25 24,
 w 26 25 (M 4),
 w 27 25 (M 6),
 w 28 25 (.bin .eql T.apiErrno (t 26) (t 27)),
 v 29 (k 25 28),
 m 2 29] [22, 23, 24, 25, 26, 27, 28, 29])
 .ret))))))⟩
theorem H.q06 : Has P F.q06 C.q06 := ⟨Tryz.f4, Tryz.func4, by kernel_rfl, by kernel_rfl⟩
noncomputable def C.q35 : MFunc := ⟨155, 0, [.tmp 0],
 (s (r [
 b 0 false] [])
 (s (r [
 f 24 F.q39 [(c 0), (c 0), (c 1), (.const .nil), (c 1), (c 5)],
 m 23 24,
 x 25 0 23,
 x 26 1 23,
 ⟨some 1, none, .alloc T.apiSession q0⟩,
 y 10 1 25,
 m 2 26] [24, 23, 25, 26, 1])
 (s (r [
 f 28 F.q4d [],
 m 27 28,
 x 29 0 27,
 x 30 1 27,
 ⟨some 3, none, .alloc T.apiSession q0⟩,
 y 10 3 29,
 m 4 30] [28, 27, 29, 30])
 (s (r [
 L 32 10 3,
 f 33 F.q4b [(t 32)],
 m 31 33,
 x 34 0 31,
 x 35 1 31,
 m 5 34,
 m 6 35] [32, 33, 31, 34, 35])
 (s (r [
 L 37 10 3,
 v 38 (.build (.int 0 :: .int 0 :: .int 0 :: .int 0 :: .int 0 :: .nil :: o (.int 0 :: .int 0 :: .int 0 :: .int 0 :: .int 0 :: .nil :: o ([]))) [(0, 1, (c 3))]),
 f 39 F.q3k [(t 37), (t 38)],
 m 36 39,
 x 40 0 36,
 x 41 1 36,
 ⟨some 7, none, .alloc T.apiSession q0⟩,
 y 10 7 40,
 m 8 41] [37, 38, 39, 36, 40, 41, 7])
 (s (r [
 L 43 10 3,
 v 44 (.build (.int 0 :: .int 0 :: .int 0 :: .int 0 :: .int 0 :: .nil :: o (.int 0 :: .int 0 :: .int 0 :: .int 0 :: .int 0 :: .nil :: o ([]))) [(0, 1, (c 1)), (1, 1, (c 5))]),
 f 45 F.q3k [(t 43), (t 44)],
 m 42 45,
 x 46 0 42,
 x 47 1 42,
 ⟨some 9, none, .alloc T.apiSession q0⟩,
 y 10 9 46,
 m 10 47] [43, 44, 45, 42, 46, 47])
 (s (r [
 L 49 10 9,
 f 50 F.q3j [(t 49)],
 m 48 50,
 x 51 0 48,
 x 52 1 48,
 m 11 51,
 m 12 52] [49, 50, 48, 51, 52])
 (s (r [
 f 54 F.q3p [(c 3), (c 9), (c 1000)],
 m 53 54,
 x 55 0 53,
 x 56 1 53,
 ⟨some 13, none, .alloc T.apiSealed (.int 0 :: .int 0 :: .int 0 :: .nil :: o ([]))⟩,
 y 36 13 55,
 m 14 56] [54, 53, 55, 56])
 (s (r [
 L 58 10 3,
 L 59 36 13,
 v 60 (.build (.int 0 :: .int 0 :: .int 0 :: .int 0 :: .int 0 :: .nil :: o (.int 0 :: .int 0 :: .int 0 :: .int 0 :: .int 0 :: .nil :: o ([]))) [(0, 1, (c 2)), (2, 36, (t 59))]),
 f 61 F.q3k [(t 58), (t 60)],
 m 57 61,
 x 62 0 57,
 x 63 1 57,
 ⟨some 15, none, .alloc T.apiSession q0⟩,
 y 10 15 62,
 m 16 63] [58, 59, 60, 61, 57, 62, 63])
 (s (r [
 L 65 10 15,
 v 66 (.build (.int 0 :: .int 0 :: .int 0 :: .int 0 :: .int 0 :: .nil :: o (.int 0 :: .int 0 :: .int 0 :: .int 0 :: .int 0 :: .nil :: o ([]))) [(0, 1, (c 1)), (1, 1, (c 6))]),
 f 67 F.q3k [(t 65), (t 66)],
 m 64 67,
 x 68 0 64,
 x 69 1 64,
 y 10 15 68,
 m 17 69] [65, 66, 67, 64, 68, 69])
 (s (r [
 L 71 10 15,
 v 72 (.buildSlice T.int 1 [(.int 0)] [(0, 1, (c 1000))]),
 v 73 (.build (o ([])) [(0, 1, (.const (.val (.int .u8 1))))]),
 v 74 (.build (.int 0 :: .nil :: o ([])) [(0, 1, (c 3)), (1, 1, (t 72)), (2, 32, (t 73))]),
 v 75 (.build (.int 0 :: .int 0 :: .int 0 :: .int 0 :: .int 0 :: .nil :: o (.int 0 :: .int 0 :: .int 0 :: .int 0 :: .int 0 :: .nil :: o ([]))) [(0, 1, (c 4)), (42, 34, (t 74))]),
 f 76 F.q3k [(t 71), (t 75)],
 m 70 76,
 x 77 0 70,
 x 78 1 70,
 ⟨some 18, none, .alloc T.apiSession q0⟩,
 y 10 18 77,
 m 19 78] [71, 72, 73, 74, 75, 76, 70, 77, 78])
 (s (r [
 L 80 10 18,
 f 81 F.q3j [(t 80)],
 m 79 81,
 x 82 0 79,
 x 83 1 79,
 m 20 82,
 m 21 83] [80, 81, 79, 82, 83])
 (s (.region (
 m 84 2 ::
 v 85 (.bin .eql T.apiErrno (t 84) (c 1)) ::
 m 86 85 ::
 w 87 86 (M 4) ::
 w 88 86 (.bin .eql T.apiErrno (t 87) (c 0)) ::
 v 89 (k 86 88) ::
 m 90 89 ::
 w 91 90 (M 6) ::
 w 92 90 (.bin .eql T.apiErrno (t 91) (c 0)) ::
 v 93 (k 90 92) ::
 m 94 93 ::
 w 95 94 (M 5) ::
 w 96 94 (N 95) ::
 v 97 (k 94 96) ::
 m 98 97 ::
 w 99 98 (M 8) ::
 w 100 98 (.bin .eql T.apiErrno (t 99) (c 360)) ::
 v 101 (k 98 100) ::
 m 102 101 ::
 w 103 102 (M 10) ::
 w 104 102 (.bin .eql T.apiErrno (t 103) (c 0)) ::
 v 105 (k 102 104) ::
 m 106 105 ::
 w 107 106 (M 12) ::
 w 108 106 (.bin .eql T.apiErrno (t 107) (c 0)) ::
 v 109 (k 106 108) ::
 m 110 109 ::
 w 111 110 (M 14) ::
 w 112 110 (.bin .eql T.apiErrno (t 111) (c 0)) ::
 v 113 (k 110 112) ::
 m 114 113 ::
 w 115 114 (M 16) ::
 w 116 114 (.bin .eql T.apiErrno (t 115) (c 0)) ::
 v 117 (k 114 116) ::
 m 118 117 ::
 w 119 118 (M 17) ::
 w 120 118 (.bin .eql T.apiErrno (t 119) (c 0)) ::
 v 121 (k 118 120) ::
 m 122 121 ::
 w 123 122 (M 19) ::
 w 124 122 (.bin .eql T.apiErrno (t 123) (c 0)) ::
 v 125 (k 122 124) ::
 m 126 125 ::
 w 127 126 (M 21) ::
 w 128 126 (.bin .eql T.apiErrno (t 127) (c 0)) ::
 v 129 (k 126 128) ::
 m 22 129 :: []) (84 :: 85 :: 86 :: 87 :: 88 :: 89 :: 90 :: 91 :: 92 :: 93 :: 94 :: 95 :: 96 :: 97 :: 98 :: 99 :: 100 :: 101 :: 102 :: 103 :: 104 :: 105 :: 106 :: 107 :: 108 :: 109 :: 110 :: 111 :: 112 :: 113 :: 114 :: 115 :: 116 :: 117 :: 118 :: 119 :: 120 :: 121 :: 122 :: 123 :: 124 :: 125 :: 126 :: 127 :: 128 :: 129 :: []))
 (s (s (r [
 m 130 22,
 v 131 (N 130),
 m 132 131,
 z 133 132 (.build q0 []),
 ⟨some 134, some (132, false), .call (.const (.func (.func F.q12) [] [])) [(t 133)]⟩,
 z 135 132 (.bin .neq T.apiErrno (t 134) (c 360)),
 v 136 (j 132 135),
 m 137 136,
 z 138 137 (E 10 3),
 ⟨some 139, some (137, false), .call (.const (.func (.func F.q12) [] [])) [(t 138)]⟩,
 z 140 137 (.bin .neq T.apiErrno (t 139) (c 0)),
 v 141 (j 137 140)] [130, 131, 132, 133, 134, 135, 136, 137, 138, 139, 140])
 (d 141
 (s (r [
 b 0 false] [])
 .ret)
 .skip))
 (s (r [
 m 142 11,
 v 143 (.build q3 [(0, 1, (c 3))]),
 v 144 (.build q3 [(0, 1, (c 3))]),
 v 145 (.buildSlice T.apiOpened 2 [(.int 0), .nil, (.int 0), .nil] [(0, 2, (t 143)), (2, 2, (t 144))]),
 f 146 F.q05 [(t 142), (t 145)],
 m 147 146,
 w 148 147 (M 20),
 w 149 147 (.buildSlice T.int 1 [(.int 0)] [(0, 1, (c 9))]),
 w 150 147 (.build q3 [(0, 1, (c 1)), (1, 1, (t 149))]),
 w 151 147 (.build q3 [(0, 1, (c 3))]),
 w 152 147 (.buildSlice T.apiOpened 2 [(.int 0), .nil, (.int 0), .nil] [(0, 2, (t 150)), (2, 2, (t 151))]),
 ⟨some 153, some (147, true), .call (.const (.func (.func F.q05) [] [])) [(t 148), (t 152)]⟩,
 v 154 (k 147 153),
 m 0 154] [142, 143, 144, 145, 146, 147, 148, 149, 150, 151, 152, 153, 154])
 .ret)))))))))))))))⟩
theorem H.q35 : Has P F.q35 C.q35 := ⟨Tryz.f10, Tryz.func10, by kernel_rfl, by kernel_rfl⟩
noncomputable def C.q4c : MFunc := ⟨47, 1, [.tmp 2],
 (s (r [
 ⟨some 1, none, .box T.apiSession (t 0)⟩,
 b 2 false] [])
 (s (.region (
 g 3 3 1 ::
 l 4 3 ::
 v 5 (n 4) ::
 v 6 (.bin .leq T.int (t 5) (c 6)) ::
 m 7 6 ::
 z 8 7 (G 3 1) ::
 z 9 7 (D 8) ::
 z 10 7 (n 9) ::
 z 11 7 (.bin .gtr T.int (t 10) (c 24)) ::
 z 12 7 (M 11) ::
 w 13 12 (G 3 1) ::
 w 14 12 (D 13) ::
 w 15 12 (n 14) ::
 w 16 12 (.bin .leq T.int (t 15) (c 40)) ::
 z 17 7 (k 12 16) ::
 v 18 (j 7 17) ::
 m 19 18 ::
 w 20 19 (G 7 1) ::
 w 21 19 (D 20) ::
 w 22 19 (n 21) ::
 w 23 19 (.bin .leq T.int (t 22) (c 8)) ::
 v 24 (k 19 23) ::
 m 25 24 ::
 w 26 25 (G 8 1) ::
 w 27 25 (D 26) ::
 w 28 25 (n 27) ::
 w 29 25 (.bin .leq T.int (t 28) (c 60)) ::
 v 30 (k 25 29) ::
 m 31 30 ::
 w 32 31 (G 9 1) ::
 w 33 31 (D 32) ::
 w 34 31 (n 33) ::
 w 35 31 (.bin .leq T.int (t 34) (c 8)) ::
 v 36 (k 31 35) ::
 m 37 36 ::
 w 38 37 (G 7 1) ::
 w 39 37 (D 38) ::
 ⟨some 40, some (37, true), .call (.const (.func (.func F.q25) [] [])) [(t 39)]⟩ ::
 v 41 (k 37 40) ::
 m 42 41 ::
 w 43 42 (G 9 1) ::
 w 44 42 (D 43) ::
 ⟨some 45, some (42, true), .call (.const (.func (.func F.q26) [] [])) [(t 44)]⟩ ::
 v 46 (k 42 45) ::
 m 2 46 :: []) (3 :: 4 :: 5 :: 6 :: 7 :: 8 :: 9 :: 10 :: 11 :: 12 :: 13 :: 14 :: 15 :: 16 :: 17 :: 18 :: 19 :: 20 :: 21 :: 22 :: 23 :: 24 :: 25 :: 26 :: 27 :: 28 :: 29 :: 30 :: 31 :: 32 :: 33 :: 34 :: 35 :: 36 :: 37 :: 38 :: 39 :: 40 :: 41 :: 42 :: 43 :: 44 :: 45 :: 46 :: []))
 .ret))⟩
theorem H.q4c : Has P F.q4c C.q4c := ⟨Tryz.f11, Tryz.func11, by kernel_rfl, by kernel_rfl⟩
noncomputable def C.q39 : MFunc := ⟨29, 6, [.cell 12 10 true, .tmp 13],
 (s (r [
 ⟨some 12, none, .alloc T.apiSession q0⟩,
 i 13 0] [])
 (s (r [
 m 15 0,
 m 16 1,
 m 17 2,
 m 18 3,
 m 19 4,
 m 20 5,
 v 21 (.build q0 [(0, 1, (t 15)), (1, 1, (t 16)), (2, 1, (t 17)), (3, 1, (t 18)), (4, 1, (t 19)), (5, 1, (t 20))]),
 v 22 (.build q0 [(0, 10, (t 21))]),
 ⟨some 14, none, .alloc T.q47 q0⟩,
 y 10 14 22] [15, 16, 17, 18, 19, 20, 21, 22])
 (s (s (r [
 L 23 10 14,
 f 24 F.q1m [(t 23)],
 v 25 (N 24)] [23, 24])
 (d 25
 (s (r [
 L 26 10 12,
 y 10 12 26,
 i 13 1] [26])
 .ret)
 .skip))
 (s (r [
 g 27 0 14,
 L 28 10 27,
 y 10 12 28,
 i 13 0] [27, 28])
 .ret))))⟩
theorem H.q39 : Has P F.q39 C.q39 := ⟨Tryz.f13, Tryz.func13, by kernel_rfl, by kernel_rfl⟩
noncomputable def C.q4b : MFunc := ⟨12, 1, [.tmp 2, .tmp 3],
 (s (r [
 ⟨some 1, none, .box T.apiSession (t 0)⟩,
 b 2 false,
 i 3 0] [])
 (s (s (r [
 L 4 10 1,
 f 5 F.q12 [(t 4)],
 m 3 5] [4, 5])
 (s (r [
 m 6 3,
 v 7 (.bin .neq T.apiErrno (t 6) (c 0))] [6])
 (d 7
 (s (r [
 m 8 3,
 b 2 false,
 m 3 8] [8])
 .ret)
 .skip)))
 (s (r [
 L 9 10 1,
 v 10 (.build q0 [(0, 10, (t 9))]),
 f 11 F.q0x [(t 10)],
 m 2 11,
 i 3 0] [9, 10, 11])
 .ret)))⟩
theorem H.q4b : Has P F.q4b C.q4b := ⟨Tryz.f15, Tryz.func15, by kernel_rfl, by kernel_rfl⟩
noncomputable def C.q3k : MDFunc := ⟨34, 2, [4, 5], [.cell 4 10 true, .cell 5 1 false],
 (.pre [] (r [
 ⟨some 2, none, .box T.apiSession (t 0)⟩,
 ⟨some 3, none, .box T.apiAct (t 1)⟩,
 ⟨some 4, none, .alloc T.apiSession q0⟩,
 ⟨some 5, none, .alloc T.apiErrno [(.int 0)]⟩] [])
 (.push (.const (.func (.func F.q0t) [] [])) [(t 5)]
 (.pre [] (r [
 L 9 10 2,
 f 10 F.q12 [(t 9)],
 v 11 (.bin .eql T.apiErrno (t 10) (c 0)),
 f 12 F.q0y [(t 11), (c 360)]] [9, 10, 11, 12])
 (.pre [] (r [
 ⟨some 14, none, .mkMap⟩,
 ⟨none, none, .mapSet (false, [.int]) (t 14) (c 1) (.const (.func (.func F.q1n) [] []))⟩,
 ⟨none, none, .mapSet (false, [.int]) (t 14) (c 2) (.const (.func (.func F.q1o) [] []))⟩,
 ⟨none, none, .mapSet (false, [.int]) (t 14) (c 3) (.const (.func (.func F.q1g) [] []))⟩,
 ⟨none, none, .mapSet (false, [.int]) (t 14) (c 4) (.const (.func (.func F.q1p) [] []))⟩,
 m 15 14,
 g 16 0 3,
 l 17 16,
 v 18 (.lookup (false, [.int]) (.val .nilFunc) true (t 15) (t 17)),
 m 13 18,
 x 19 0 13,
 x 20 1 13,
 m 6 19,
 m 7 20] [14, 15, 16, 17, 18, 13, 19, 20])
 (.pre [] (r [
 m 21 7,
 f 22 F.q0y [(t 21), (c 1)]] [21, 22])
 (.pre [] (r [
 L 23 10 2,
 v 24 (.build q0 [(0, 10, (t 23))]),
 ⟨some 25, none, .box T.q47 (t 24)⟩,
 m 8 25] [23, 24, 25])
 (.pre [] (r [
 m 26 6,
 m 27 8,
 L 28 76 3,
 ⟨some 29, none, .call (t 26) [(t 27), (t 28)]⟩] [26, 27, 28, 29])
 (.pre [] (r [
 m 30 8,
 v 31 (.nilCheck (t 30)),
 g 32 0 31,
 L 33 10 32,
 y 10 4 33,
 ⟨none, none, .store 1 (t 5) (c 0)⟩] [30, 31, 32, 33])
 (.pre [] .ret
 .done)))))))))⟩
theorem H.q3k : HasD P F.q3k C.q3k := ⟨Tryz.f17, Tryz.func17, by kernel_rfl, by kernel_rfl⟩
noncomputable def C.q12 : MFunc := ⟨7, 1, [.tmp 2],
 (s (r [
 ⟨some 1, none, .box T.apiSession (t 0)⟩,
 i 2 0] [])
 (s (s (r [
 L 3 10 1,
 v 4 (.build q0 [(0, 10, (t 3))]),
 f 5 F.q1m [(t 4)],
 v 6 (N 5)] [3, 4, 5])
 (d 6
 (s (r [
 i 2 360] [])
 .ret)
 .skip))
 (s (r [
 i 2 0] [])
 .ret)))⟩
theorem H.q12 : Has P F.q12 C.q12 := ⟨Tryz.f20, Tryz.func20, by kernel_rfl, by kernel_rfl⟩
noncomputable def C.q3j : MFunc := ⟨27, 1, [.tmp 2, .tmp 3],
 (s (r [
 ⟨some 1, none, .box T.apiSession (t 0)⟩,
 v 2 (.mv (.const .nil)),
 i 3 0] [])
 (s (s (r [
 L 6 10 1,
 f 7 F.q12 [(t 6)],
 m 3 7] [6, 7])
 (s (r [
 m 8 3,
 v 9 (.bin .neq T.apiErrno (t 8) (c 0))] [8])
 (d 9
 (s (r [
 m 10 3,
 v 2 (.mv (.const .nil)),
 m 3 10] [10])
 .ret)
 .skip)))
 (s (s (r [
 g 11 3 1,
 l 12 11,
 v 13 (n 12),
 i 14 0] [11])
 (.block 0 (.loop (s (r [
 v 15 (A 14 13)] [])
 (s (d 15
 .skip
 (.exit 0))
 (s (.block 1 (s (r [
 v 16 (I 1 12 14),
 l 17 16,
 m 5 17] [16, 17])
 (r [
 m 18 2,
 L 19 10 1,
 v 20 (.build q0 [(0, 10, (t 19))]),
 m 21 5,
 f 22 F.q1q [(t 20), (t 21)],
 v 23 (.buildSlice T.apiOpened 1 q3 [(0, 2, (t 22))]),
 ⟨some 24, none, .append T.apiOpened 32 2 (t 18) (t 23)⟩,
 m 2 24] [18, 19, 20, 21, 22, 23, 24])))
 (r [
 v 25 (p 14 1),
 m 14 25] [25])))))))
 (s (r [
 m 26 2,
 m 2 26,
 i 3 0] [26])
 .ret))))⟩
theorem H.q3j : Has P F.q3j C.q3j := ⟨Tryz.f22, Tryz.func22, by kernel_rfl, by kernel_rfl⟩
noncomputable def C.q2n : MFunc := ⟨34, 1, [.tmp 2, .tmp 3],
 (s (r [
 ⟨some 1, none, .box T.apiSession (t 0)⟩,
 v 2 (.mv (.const .nil)),
 i 3 0] [])
 (s (s (r [
 L 6 10 1,
 f 7 F.q29 [(t 6)],
 v 8 (N 7)] [6, 7])
 (d 8
 (s (r [
 v 2 (.mv (.const .nil)),
 i 3 360] [])
 .ret)
 .skip))
 (s (r [
 v 9 (.buildSlice T.apiOpened 0 [] []),
 m 4 9] [9])
 (s (s (r [
 i 5 0] [])
 (.block 0 (.loop (s (s (r [
 m 10 5,
 g 11 3 1,
 l 12 11,
 v 13 (n 12),
 v 14 (A 10 13)] [10, 11, 12, 13])
 (d 14
 .skip
 (.exit 0)))
 (s (.block 1 (s (r [
 L 17 10 1,
 f 18 F.q3l [(t 17)]] [17])
 (d 18
 (.draw true [
 a (m 19 4),
 e (L 20 10 1),
 e (g 21 3 1),
 e (l 22 21),
 e (m 23 5),
 e (v 24 (I 1 22 23)),
 e (l 25 24),
 h (f 26 F.q36 [(t 20), (t 25)]),
 a (v 27 (.buildSlice T.apiOpened 1 q3 [(0, 2, (t 26))])),
 h (⟨some 28, none, .append T.apiOpened 32 2 (t 19) (t 27)⟩),
 a (m 4 28)] [19, 20, 21, 22, 23, 24, 25, 26, 27, 28])
 (r [
 m 29 4,
 v 30 (.build q3 []),
 v 31 (.buildSlice T.apiOpened 1 q3 [(0, 2, (t 30))]),
 ⟨some 32, none, .append T.apiOpened 32 2 (t 29) (t 31)⟩,
 m 4 32] [29, 30, 31, 32]))))
 (r [
 m 15 5,
 v 16 (p 15 1),
 m 5 16] [15, 16]))))))
 (s (r [
 m 33 4,
 m 2 33,
 i 3 0] [33])
 .ret)))))⟩
theorem H.q2n : Has P F.q2n C.q2n := ⟨Tryz.f23, Tryz.func23, by kernel_rfl, by kernel_rfl⟩
noncomputable def C.q05 : MFunc := ⟨42, 2, [.tmp 4],
 (s (r [
 b 4 false] [])
 (s (s (r [
 m 6 0,
 v 7 (n 6),
 m 8 1,
 v 9 (n 8),
 v 10 (.bin .neq T.int (t 7) (t 9))] [6, 7, 8, 9])
 (d 10
 (s (r [
 b 4 false] [])
 .ret)
 .skip))
 (s (s (r [
 i 5 0] [])
 (.block 0 (.loop (s (s (r [
 m 11 5,
 m 12 0,
 v 13 (n 12),
 v 14 (A 11 13)] [11, 12, 13])
 (d 14
 .skip
 (.exit 0)))
 (s (.block 1 (s (.draw true [
 e (m 17 0),
 e (m 18 5),
 e (v 19 (I 2 17 18)),
 e (g 20 0 19),
 e (l 21 20),
 e (m 22 1),
 e (m 23 5),
 e (v 24 (I 2 22 23)),
 e (g 25 0 24),
 e (l 26 25),
 e (v 27 (.bin .neq T.int (t 21) (t 26))),
 e (m 28 27),
 e (z 29 28 (M 0)),
 e (z 30 28 (M 5)),
 e (z 31 28 (I 2 29 30)),
 e (z 32 28 (G 1 31)),
 e (z 33 28 (D 32)),
 e (z 34 28 (M 1)),
 e (z 35 28 (M 5)),
 e (z 36 28 (I 2 34 35)),
 e (z 37 28 (G 1 36)),
 e (z 38 28 (D 37)),
 h (⟨some 39, some (28, false), .call (.const (.func (.func F.q14) [] [])) [(t 33), (t 38)]⟩),
 a (z 40 28 (N 39)),
 a (v 41 (j 28 40))] [17, 18, 19, 20, 21, 22, 23, 24, 25, 26, 27, 28, 29, 30, 31, 32, 33, 34, 35, 36, 37, 38, 39, 40])
 (d 41
 (s (r [
 b 4 false] [])
 .ret)
 .skip)))
 (r [
 m 15 5,
 v 16 (p 15 1),
 m 5 16] [15, 16]))))))
 (s (r [
 b 4 true] [])
 .ret))))⟩
theorem H.q05 : Has P F.q05 C.q05 := ⟨Tryz.f24, Tryz.func24, by kernel_rfl, by kernel_rfl⟩
noncomputable def C.q29 : MFunc := ⟨127, 1, [.tmp 2],
 (s (r [
 ⟨some 1, none, .box T.apiSession (t 0)⟩,
 b 2 false] [])
 (s (s (r [
 L 6 10 1,
 f 7 F.q3q [(t 6)],
 v 8 (N 7)] [6, 7])
 (d 8
 (s (r [
 b 2 false] [])
 .ret)
 .skip))
 (s (s (r [
 i 3 0] [])
 (.block 0 (.loop (s (s (r [
 m 9 3,
 g 10 7 1,
 l 11 10,
 v 12 (n 11),
 v 13 (A 9 12)] [9, 10, 11, 12])
 (d 13
 .skip
 (.exit 0)))
 (s (.block 1 (s (.draw true [
 e (L 16 10 1),
 e (g 17 7 1),
 e (l 18 17),
 e (m 19 3),
 e (v 20 (I 36 18 19)),
 e (L 21 36 20),
 h (f 22 F.q3z [(t 16), (t 21)]),
 a (v 23 (N 22)),
 a (m 24 23),
 a (z 25 24 (M 3)),
 a (z 26 24 (.bin .gtr T.int (t 25) (c 0))),
 a (z 27 24 (M 26)),
 a (w 28 27 (G 7 1)),
 a (w 29 27 (D 28)),
 a (w 30 27 (M 3)),
 a (w 31 27 (.bin .sub T.int (t 30) (c 1))),
 a (w 32 27 (I 36 29 31)),
 a (w 33 27 (G 2 32)),
 a (w 34 27 (D 33)),
 a (w 35 27 (G 7 1)),
 a (w 36 27 (D 35)),
 a (w 37 27 (M 3)),
 a (w 38 27 (I 36 36 37)),
 a (w 39 27 (G 2 38)),
 a (w 40 27 (D 39)),
 a (w 41 27 (.bin .geq T.int (t 34) (t 40))),
 a (z 42 24 (k 27 41)),
 a (v 43 (j 24 42))] [16, 17, 18, 19, 20, 21, 22, 23, 24, 25, 26, 27, 28, 29, 30, 31, 32, 33, 34, 35, 36, 37, 38, 39, 40, 41, 42])
 (d 43
 (s (r [
 b 2 false] [])
 .ret)
 .skip)))
 (r [
 m 14 3,
 v 15 (p 14 1),
 m 3 15] [14, 15]))))))
 (s (s (r [
 i 4 0] [])
 (.block 2 (.loop (s (s (r [
 m 44 4,
 g 45 8 1,
 l 46 45,
 v 47 (n 46),
 v 48 (A 44 47)] [44, 45, 46, 47])
 (d 48
 .skip
 (.exit 2)))
 (s (.block 3 (s (.draw true [
 e (L 51 10 1),
 e (g 52 8 1),
 e (l 53 52),
 e (m 54 4),
 e (v 55 (I 4 53 54)),
 e (L 56 4 55),
 h (f 57 F.q3r [(t 51), (t 56)]),
 a (v 58 (N 57)),
 a (m 59 58),
 a (z 60 59 (M 4)),
 a (z 61 59 (.bin .gtr T.int (t 60) (c 0))),
 a (z 62 59 (M 61)),
 a (w 63 62 (G 8 1)),
 a (w 64 62 (D 63)),
 a (w 65 62 (M 4)),
 a (w 66 62 (.bin .sub T.int (t 65) (c 1))),
 a (w 67 62 (I 4 64 66)),
 a (w 68 62 (E 4 67)),
 a (w 69 62 (G 8 1)),
 a (w 70 62 (D 69)),
 a (w 71 62 (M 4)),
 a (w 72 62 (I 4 70 71)),
 a (w 73 62 (E 4 72)),
 h (⟨some 74, some (62, true), .call (.const (.func (.func F.q09) [] [])) [(t 68), (t 73)]⟩),
 a (w 75 62 (N 74)),
 a (z 76 59 (k 62 75)),
 a (v 77 (j 59 76))] [51, 52, 53, 54, 55, 56, 57, 58, 59, 60, 61, 62, 63, 64, 65, 66, 67, 68, 69, 70, 71, 72, 73, 74, 75, 76])
 (d 77
 (s (r [
 b 2 false] [])
 .ret)
 .skip)))
 (r [
 m 49 4,
 v 50 (p 49 1),
 m 4 50] [49, 50]))))))
 (s (s (r [
 i 5 0] [])
 (.block 4 (.loop (s (s (r [
 m 78 5,
 g 79 9 1,
 l 80 79,
 v 81 (n 80),
 v 82 (A 78 81)] [78, 79, 80, 81])
 (d 82
 .skip
 (.exit 4)))
 (s (.block 5 (s (.draw true [
 e (L 85 10 1),
 e (g 86 9 1),
 e (l 87 86),
 e (m 88 5),
 e (v 89 (I 34 87 88)),
 e (L 90 34 89),
 h (f 91 F.q2o [(t 85), (t 90)]),
 a (v 92 (N 91)),
 a (m 93 92),
 a (z 94 93 (M 5)),
 a (z 95 93 (.bin .gtr T.int (t 94) (c 0))),
 a (z 96 93 (M 95)),
 a (w 97 96 (G 9 1)),
 a (w 98 96 (D 97)),
 a (w 99 96 (M 5)),
 a (w 100 96 (.bin .sub T.int (t 99) (c 1))),
 a (w 101 96 (I 34 98 100)),
 a (w 102 96 (G 0 101)),
 a (w 103 96 (D 102)),
 a (w 104 96 (G 9 1)),
 a (w 105 96 (D 104)),
 a (w 106 96 (M 5)),
 a (w 107 96 (I 34 105 106)),
 a (w 108 96 (G 0 107)),
 a (w 109 96 (D 108)),
 a (w 110 96 (.bin .geq T.int (t 103) (t 109))),
 a (z 111 93 (k 96 110)),
 a (v 112 (j 93 111))] [85, 86, 87, 88, 89, 90, 91, 92, 93, 94, 95, 96, 97, 98, 99, 100, 101, 102, 103, 104, 105, 106, 107, 108, 109, 110, 111])
 (d 112
 (s (r [
 b 2 false] [])
 .ret)
 .skip)))
 (r [
 m 83 5,
 v 84 (p 83 1),
 m 5 84] [83, 84]))))))
 (s (r [
 L 113 10 1,
 f 114 F.q3l [(t 113)],
 m 115 114,
 z 116 115 (G 8 1),
 z 117 115 (D 116),
 z 118 115 (n 117),
 z 119 115 (.bin .eql T.int (t 118) (c 0)),
 z 120 115 (M 119),
 w 121 120 (G 9 1),
 w 122 120 (D 121),
 w 123 120 (n 122),
 w 124 120 (.bin .eql T.int (t 123) (c 0)),
 z 125 115 (k 120 124),
 v 126 (j 115 125),
 m 2 126] [113, 114, 115, 116, 117, 118, 119, 120, 121, 122, 123, 124, 125, 126])
 .ret))))))⟩
theorem H.q29 : Has P F.q29 C.q29 := ⟨Tryz.f25, Tryz.func25, by kernel_rfl, by kernel_rfl⟩
noncomputable def C.q3m : MFunc := ⟨22, 2, [.tmp 4],
 (s (r [
 ⟨some 2, none, .box T.apiSession (t 0)⟩,
 i 4 0] [])
 (s (s (r [
 i 5 0] [])
 (.block 0 (.loop (s (s (r [
 m 6 5,
 g 7 7 2,
 l 8 7,
 v 9 (n 8),
 v 10 (A 6 9)] [6, 7, 8, 9])
 (d 10
 .skip
 (.exit 0)))
 (s (.block 1 (s (r [
 g 13 7 2,
 l 14 13,
 m 15 5,
 v 16 (I 36 14 15),
 g 17 2 16,
 l 18 17,
 m 19 1,
 v 20 (B 18 19)] [13, 14, 15, 16, 17, 18, 19])
 (d 20
 (s (r [
 m 21 5,
 m 4 21] [21])
 .ret)
 .skip)))
 (r [
 m 11 5,
 v 12 (p 11 1),
 m 5 12] [11, 12]))))))
 (s (r [
 v 4 (.mv (.const (.int (-1))))] [])
 .ret)))⟩
theorem H.q3m : Has P F.q3m C.q3m := ⟨Tryz.f26, Tryz.func26, by kernel_rfl, by kernel_rfl⟩
noncomputable def C.q25 : MFunc := ⟨35, 1, [.tmp 2],
 (s (r [
 b 2 false] [])
 (s (s (r [
 i 3 0] [])
 (.block 0 (.loop (s (s (r [
 m 4 3,
 m 5 0,
 v 6 (n 5),
 v 7 (A 4 6)] [4, 5, 6])
 (d 7
 .skip
 (.exit 0)))
 (s (.block 1 (s (r [
 m 10 0,
 m 11 3,
 v 12 (I 36 10 11),
 g 13 3 12,
 l 14 13,
 v 15 (n 14),
 v 16 (.bin .gtr T.int (t 15) (c 8)),
 m 17 16,
 w 18 17 (M 0),
 w 19 17 (M 3),
 w 20 17 (I 36 18 19),
 w 21 17 (G 3 20),
 w 22 17 (D 21),
 w 23 17 (n 22),
 w 24 17 (.bin .leq T.int (t 23) (c 64)),
 v 25 (k 17 24),
 m 26 25,
 z 27 26 (M 0),
 z 28 26 (M 3),
 z 29 26 (I 36 27 28),
 z 30 26 (G 3 29),
 z 31 26 (D 30),
 z 32 26 (n 31),
 z 33 26 (.bin .gtr T.int (t 32) (c 80)),
 v 34 (j 26 33)] [10, 11, 12, 13, 14, 15, 16, 17, 18, 19, 20, 21, 22, 23, 24, 25, 26, 27, 28, 29, 30, 31, 32, 33])
 (d 34
 (s (r [
 b 2 false] [])
 .ret)
 .skip)))
 (r [
 m 8 3,
 v 9 (p 8 1),
 m 3 9] [8, 9]))))))
 (s (r [
 b 2 true] [])
 .ret)))⟩
theorem H.q25 : Has P F.q25 C.q25 := ⟨Tryz.f27, Tryz.func27, by kernel_rfl, by kernel_rfl⟩
noncomputable def C.q4x : MDFunc := ⟨14, 2, [5], [.tmp 4, .cell 5 1 false],
 (.pre [] (r [
 ⟨some 2, none, .box T.apiSealed (t 0)⟩,
 v 4 (.mv (.const .nil)),
 ⟨some 5, none, .alloc T.apiErrno [(.int 0)]⟩] [])
 (.push (.const (.func (.func F.q0q) [] [])) [(t 5)]
 (.pre [4] (r [
 L 7 36 2,
 m 8 1,
 f 9 F.q4r [(t 7), (t 8)],
 m 6 9] [7, 8, 9])
 (.pre [4] (r [
 m 10 6,
 f 11 F.q4p [(t 10), (c 1000)],
 f 12 F.q33 [(t 11)]] [10, 11, 12])
 (.pre [] (r [
 m 13 6,
 m 4 13,
 ⟨none, none, .store 1 (t 5) (c 0)⟩] [13])
 (.pre [4] .ret
 .done))))))⟩
theorem H.q4x : HasD P F.q4x C.q4x := ⟨Tryz.f30, Tryz.func30, by kernel_rfl, by kernel_rfl⟩
noncomputable def C.q14 : MFunc := ⟨26, 2, [.tmp 4],
 (s (r [
 b 4 false] [])
 (s (s (r [
 m 6 0,
 v 7 (n 6),
 m 8 1,
 v 9 (n 8),
 v 10 (.bin .neq T.int (t 7) (t 9))] [6, 7, 8, 9])
 (d 10
 (s (r [
 b 4 false] [])
 .ret)
 .skip))
 (s (s (r [
 i 5 0] [])
 (.block 0 (.loop (s (s (r [
 m 11 5,
 m 12 0,
 v 13 (n 12),
 v 14 (A 11 13)] [11, 12, 13])
 (d 14
 .skip
 (.exit 0)))
 (s (.block 1 (s (.draw false [
 e (m 17 0),
 e (m 18 5),
 e (v 19 (I 1 17 18)),
 e (l 20 19),
 e (m 21 1),
 e (m 22 5),
 e (v 23 (I 1 21 22)),
 e (l 24 23),
 e (v 25 (.bin .neq T.int (t 20) (t 24)))] [17, 18, 19, 20, 21, 22, 23, 24])
 (d 25
 (s (r [
 b 4 false] [])
 .ret)
 .skip)))
 (r [
 m 15 5,
 v 16 (p 15 1),
 m 5 16] [15, 16]))))))
 (s (r [
 b 4 true] [])
 .ret))))⟩
theorem H.q14 : Has P F.q14 C.q14 := ⟨Tryz.f31, Tryz.func31, by kernel_rfl, by kernel_rfl⟩
noncomputable def C.q40 : MFunc := ⟨82, 2, [.tmp 4, .tmp 5],
 (s (r [
 ⟨some 3, none, .box T.int (t 1)⟩,
 i 4 0,
 i 5 0] [])
 (s (s (r [
 m 16 0,
 v 17 (n 16),
 v 18 (.bin .gtr T.int (t 17) (c 24))] [16, 17])
 (d 18
 (s (r [
 i 4 0,
 i 5 2] [])
 .ret)
 .skip))
 (s (r [
 ⟨some 19, none, .mkMap⟩,
 m 6 19] [19])
 (s (s (r [
 m 20 0,
 v 21 (n 20),
 i 22 0] [])
 (.block 0 (.loop (s (r [
 v 23 (A 22 21)] [])
 (s (d 23
 .skip
 (.exit 0))
 (s (.block 1 (s (r [
 v 24 (I 2 20 22),
 L 25 2 24,
 ⟨some 8, none, .alloc T.apiPoint q2⟩,
 y 2 8 25] [24, 25])
 (r [
 m 26 6,
 g 27 0 8,
 l 28 27,
 f 29 F.q3e [(t 28)],
 ⟨none, none, .mapSet (false, [.int]) (t 26) (t 29) (.const (.bool true))⟩] [26, 27, 28, 29])))
 (r [
 v 30 (p 22 1),
 m 22 30] [30])))))))
 (s (s (r [
 m 31 6,
 v 32 (.maplen (t 31)),
 m 33 0,
 v 34 (n 33),
 v 35 (A 32 34)] [31, 32, 33, 34])
 (d 35
 (s (r [
 i 4 0,
 i 5 120] [])
 .ret)
 .skip))
 (s (s (r [
 m 36 0,
 v 37 (n 36),
 i 38 0] [])
 (.block 2 (.loop (s (r [
 v 39 (A 38 37)] [])
 (s (d 39
 .skip
 (.exit 2))
 (s (.block 3 (s (r [
 m 40 38,
 v 41 (I 2 36 38),
 L 42 2 41,
 ⟨some 10, none, .alloc T.apiPoint q2⟩,
 m 9 40,
 y 2 10 42] [40, 41, 42])
 (s (r [
 g 43 1 10,
 l 44 43,
 f 45 F.q3e [(t 44)],
 ⟨some 11, none, .alloc T.int [(.int 0)]⟩,
 ⟨some 12, none, .alloc T.int [(.int 0)]⟩,
 y 1 11 45,
 ⟨none, none, .store 1 (t 12) (c 1)⟩] [43, 44, 45])
 (s (s (r [
 m 46 0,
 m 47 9,
 f 48 F.q4u [(t 46), (t 47)]] [46, 47])
 (.block 4 (.rangeFunc (t 48) [49] (r [
 ⟨some 13, none, .alloc T.apiPoint q2⟩,
 y 2 13 49] [])
 (.block 5 (.draw true [
 a (l 50 11),
 a (l 51 3),
 e (g 52 0 13),
 e (l 53 52),
 a (l 59 12),
 a (g 60 0 10),
 a (l 61 60),
 a (g 62 0 13),
 a (l 63 62),
 h (f 54 F.q3e [(t 53)]),
 a (v 55 (.un .neg (t 54))),
 a (v 56 (.buildSlice T.int 2 q2 [(0, 1, (t 51)), (1, 1, (t 55))])),
 h (f 57 F.q4v [(t 56)]),
 h (f 58 F.q4l [(t 50), (t 57)]),
 h (f 64 F.q3e [(t 63)]),
 a (v 65 (.un .neg (t 64))),
 a (v 66 (.buildSlice T.int 2 q2 [(0, 1, (t 61)), (1, 1, (t 65))])),
 h (f 67 F.q4v [(t 66)]),
 h (f 68 F.q4l [(t 59), (t 67)]),
 (.last, y 1 11 58),
 (.last, y 1 12 68)] [50, 51, 52, 53, 54, 55, 56, 57, 58, 59, 60, 61, 62, 63, 64, 65, 66, 67, 68])))))
 (s (r [
 l 70 12,
 f 71 F.q4g [(t 70)],
 m 69 71,
 x 72 0 69,
 x 73 1 69,
 m 14 72,
 m 15 73] [70, 71, 69, 72, 73, 15])
 (r [
 m 74 4,
 l 75 11,
 m 76 14,
 f 77 F.q4l [(t 75), (t 76)],
 v 78 (.buildSlice T.int 2 q2 [(0, 1, (t 74)), (1, 1, (t 77))]),
 f 79 F.q4v [(t 78)],
 m 4 79] [74, 75, 76, 77, 78, 79]))))))
 (r [
 v 80 (p 38 1),
 m 38 80] [80])))))))
 (s (r [
 m 81 4,
 m 4 81,
 i 5 0] [81])
 .ret)))))))⟩
theorem H.q40 : Has P F.q40 C.q40 := ⟨Tryz.f32, Tryz.func32, by kernel_rfl, by kernel_rfl⟩
noncomputable def C.q4w : MDFunc := ⟨46, 6, [12, 13], [.cell 12 36 true, .cell 13 1 false],
 (.pre [] (r [
 ⟨some 11, none, .box T.apiDigest (t 5)⟩,
 ⟨some 12, none, .alloc T.apiSealed (.int 0 :: .int 0 :: .int 0 :: .nil :: o ([]))⟩,
 ⟨some 13, none, .alloc T.apiErrno [(.int 0)]⟩] [])
 (.push (.const (.func (.func F.q0q) [] [])) [(t 13)]
 (.pre [] (r [
 m 15 0,
 m 16 1,
 m 17 2,
 v 18 (.build (.int 0 :: .int 0 :: .int 0 :: .nil :: o ([])) [(0, 1, (t 15)), (1, 1, (t 16)), (2, 1, (t 17))]),
 ⟨some 14, none, .alloc T.apiSealed (.int 0 :: .int 0 :: .int 0 :: .nil :: o ([]))⟩,
 y 36 14 18] [15, 16, 17, 18])
 (.pre [] (r [
 L 19 36 14,
 f 20 F.q2j [(t 19)]] [19, 20])
 (.pre [] (r [
 m 21 3,
 f 22 F.q4p [(t 21), (c 1000)],
 m 23 22,
 w 24 23 (M 4),
 ⟨some 25, some (23, true), .call (.const (.func (.func F.q4p) [] [])) [(t 24), (c 1073741788)]⟩,
 v 26 (k 23 25),
 m 27 26,
 w 28 27 (M 3),
 w 29 27 (n 28),
 w 30 27 (M 4),
 w 31 27 (n 30),
 w 32 27 (B 29 31),
 v 33 (k 27 32),
 f 34 F.q33 [(t 33)]] [21, 22, 23, 24, 25, 26, 27, 28, 29, 30, 31, 32, 33, 34])
 (.pre [] (r [
 m 35 3,
 m 36 4,
 ⟨some 37, none, .call (.const (.func (.func F.q1b) [] [])) [(t 35), (t 36), (.const (.func (.func F.q4m) [] []))]⟩,
 g 38 3 14,
 y 1 38 37] [35, 36, 37, 38])
 (.pre [] (r [
 L 39 36 14,
 m 40 3,
 m 41 4,
 L 42 32 11,
 f 43 F.q4a [(t 39), (t 40), (t 41), (t 42)],
 g 44 4 14,
 y 32 44 43] [39, 40, 41, 42, 43, 44])
 (.pre [] (r [
 L 45 36 14,
 y 36 12 45,
 ⟨none, none, .store 1 (t 13) (c 0)⟩] [45])
 (.pre [] .ret
 .done)))))))))⟩
theorem H.q4w : HasD P F.q4w C.q4w := ⟨Tryz.f34, Tryz.func34, by kernel_rfl, by kernel_rfl⟩
noncomputable def C.q4d : MFunc := ⟨6, 0, [.cell 0 10 true, .tmp 1],
 (s (r [
 ⟨some 0, none, .alloc T.apiSession q0⟩,
 i 1 0] [])
 (s (r [
 v 2 (.buildSlice T.int 2 q2 [(0, 1, (c 3)), (1, 1, (c 7))]),
 f 3 F.q39 [(c 0), (c 0), (c 1), (t 2), (c 2), (c 5)],
 x 4 0 3,
 x 5 1 3,
 y 10 0 4,
 m 1 5] [2, 3, 4, 5])
 .ret))⟩
theorem H.q4d : Has P F.q4d C.q4d := ⟨Tryz.f36, Tryz.func36, by kernel_rfl, by kernel_rfl⟩
noncomputable def C.q3p : MFunc := ⟨17, 3, [.cell 6 36 true, .tmp 7],
 (s (r [
 ⟨some 6, none, .alloc T.apiSealed (.int 0 :: .int 0 :: .int 0 :: .nil :: o ([]))⟩,
 i 7 0] [])
 (s (r [
 m 8 0,
 m 9 1,
 v 10 (.buildSlice T.int 1 [(.int 0)] [(0, 1, (t 9))]),
 m 11 2,
 v 12 (.buildSlice T.int 1 [(.int 0)] [(0, 1, (t 11))]),
 v 13 (.build (o ([])) [(0, 1, (.const (.val (.int .u8 1))))]),
 f 14 F.q4w [(c 0), (c 0), (t 8), (t 10), (t 12), (t 13)],
 x 15 0 14,
 x 16 1 14,
 y 36 6 15,
 m 7 16] [8, 9, 10, 11, 12, 13, 14, 15, 16])
 .ret))⟩
theorem H.q3p : Has P F.q3p C.q3p := ⟨Tryz.f37, Tryz.func37, by kernel_rfl, by kernel_rfl⟩
noncomputable def C.q26 : MFunc := ⟨17, 1, [.tmp 2],
 (s (r [
 b 2 false] [])
 (s (s (r [
 i 3 0] [])
 (.block 0 (.loop (s (s (r [
 m 4 3,
 m 5 0,
 v 6 (n 5),
 v 7 (A 4 6)] [4, 5, 6])
 (d 7
 .skip
 (.exit 0)))
 (s (.block 1 (s (r [
 m 10 0,
 m 11 3,
 v 12 (I 34 10 11),
 g 13 1 12,
 l 14 13,
 v 15 (n 14),
 v 16 (.bin .gtr T.int (t 15) (c 80))] [10, 11, 12, 13, 14, 15])
 (d 16
 (s (r [
 b 2 false] [])
 .ret)
 .skip)))
 (r [
 m 8 3,
 v 9 (p 8 1),
 m 3 9] [8, 9]))))))
 (s (r [
 b 2 true] [])
 .ret)))⟩
theorem H.q26 : Has P F.q26 C.q26 := ⟨Tryz.f38, Tryz.func38, by kernel_rfl, by kernel_rfl⟩
noncomputable def C.q1m : MFunc := ⟨67, 1, [.tmp 2],
 (s (r [
 ⟨some 1, none, .box T.q47 (t 0)⟩,
 b 2 false] [])
 (s (s (.draw true (
 e (g 7 0 1) ::
 e (g 8 0 7) ::
 e (l 9 8) ::
 a (g 11 0 1) ::
 a (g 12 1 11) ::
 a (l 13 12) ::
 a (g 15 0 1) ::
 a (g 16 2 15) ::
 a (l 17 16) ::
 a (v 18 (.bin .sub T.int (t 17) (c 1))) ::
 a (g 20 0 1) ::
 a (g 21 3 20) ::
 a (l 22 21) ::
 a (v 23 (n 22)) ::
 a (v 24 (.bin .sub T.int (t 23) (c 1))) ::
 a (g 26 0 1) ::
 a (g 27 4 26) ::
 a (l 28 27) ::
 a (v 29 (.bin .sub T.int (t 28) (c 1))) ::
 a (g 30 0 1) ::
 a (g 31 3 30) ::
 a (l 32 31) ::
 a (v 33 (n 32)) ::
 a (g 35 0 1) ::
 a (g 36 5 35) ::
 a (l 37 36) ::
 a (g 39 0 1) ::
 a (g 40 6 39) ::
 a (l 41 40) ::
 a (i 45 0) ::
 h (f 10 F.q07 [(t 9), (c 8)]) ::
 h (f 14 F.q07 [(t 13), (c 4096)]) ::
 h (f 19 F.q07 [(t 18), (c 64)]) ::
 h (f 25 F.q07 [(t 24), (c 24)]) ::
 h (f 34 F.q07 [(t 29), (t 33)]) ::
 h (f 38 F.q07 [(t 37), (c 2097152)]) ::
 h (f 42 F.q07 [(t 41), (c 2097152)]) ::
 a (v 43 (.buildSlice T.bool 7 [(.bool false), (.bool false), (.bool false), (.bool false), (.bool false), (.bool false), (.bool false)] [(0, 1, (t 10)), (1, 1, (t 14)), (2, 1, (t 19)), (3, 1, (t 25)), (4, 1, (t 34)), (5, 1, (t 38)), (6, 1, (t 42))])) ::
 a (v 44 (n 43)) :: []) (7 :: 8 :: 9 :: 10 :: 11 :: 12 :: 13 :: 14 :: 15 :: 16 :: 17 :: 18 :: 19 :: 20 :: 21 :: 22 :: 23 :: 24 :: 25 :: 26 :: 27 :: 28 :: 29 :: 30 :: 31 :: 32 :: 33 :: 34 :: 35 :: 36 :: 37 :: 38 :: 39 :: 40 :: 41 :: 42 :: []))
 (.block 0 (.loop (s (r [
 v 46 (A 45 44)] [])
 (s (d 46
 .skip
 (.exit 0))
 (s (.block 1 (s (r [
 v 47 (I 1 43 45),
 l 48 47,
 m 4 48] [47, 48])
 (s (r [
 m 49 4,
 v 50 (N 49)] [49])
 (d 50
 (s (r [
 b 2 false] [])
 .ret)
 .skip))))
 (r [
 v 51 (p 45 1),
 m 45 51] [51])))))))
 (s (s (r [
 v 52 (.mkFunc (.func F.q1v) [] [(t 1)]),
 v 53 (.mkFunc (.func F.q1w) [] [(t 1)]),
 v 54 (.mkFunc (.func F.q1x) [] [(t 1)]),
 v 55 (.mkFunc (.func F.q1y) [] [(t 1)]),
 v 56 (.mkFunc (.func F.q1z) [] [(t 1)]),
 v 57 (.buildSlice T.funcbool 5 [(.val .nilFunc), (.val .nilFunc), (.val .nilFunc), (.val .nilFunc), (.val .nilFunc)] [(0, 1, (t 52)), (1, 1, (t 53)), (2, 1, (t 54)), (3, 1, (t 55)), (4, 1, (t 56))]),
 v 58 (n 57),
 i 59 0] [52, 53, 54, 55, 56])
 (.block 2 (.loop (s (r [
 v 60 (A 59 58)] [])
 (s (d 60
 .skip
 (.exit 2))
 (s (.block 3 (s (r [
 v 61 (I 1 57 59),
 l 62 61,
 m 6 62] [61, 62])
 (s (r [
 m 63 6,
 ⟨some 64, none, .call (t 63) []⟩,
 v 65 (N 64)] [63, 64])
 (d 65
 (s (r [
 b 2 false] [])
 .ret)
 .skip))))
 (r [
 v 66 (p 59 1),
 m 59 66] [66])))))))
 (s (r [
 b 2 true] [])
 .ret))))⟩
theorem H.q1m : Has P F.q1m C.q1m := ⟨Tryz.f39, Tryz.func39, by kernel_rfl, by kernel_rfl⟩
noncomputable def C.q0x : MFunc := ⟨21, 1, [.tmp 2],
 (s (r [
 ⟨some 1, none, .box T.q47 (t 0)⟩,
 b 2 false] [])
 (s (r [
 g 3 0 1,
 g 4 6 3,
 l 5 4,
 g 6 0 1,
 g 7 5 6,
 l 8 7,
 v 9 (.bin .geq T.int (t 5) (t 8)),
 m 10 9,
 z 11 10 (G 0 1),
 z 12 10 (G 7 11),
 z 13 10 (D 12),
 z 14 10 (n 13),
 z 15 10 (G 0 1),
 z 16 10 (G 3 15),
 z 17 10 (D 16),
 z 18 10 (n 17),
 z 19 10 (B 14 18),
 v 20 (j 10 19),
 m 2 20] [3, 4, 5, 6, 7, 8, 9, 10, 11, 12, 13, 14, 15, 16, 17, 18, 19, 20])
 .ret))⟩
theorem H.q0x : Has P F.q0x C.q0x := ⟨Tryz.f40, Tryz.func40, by kernel_rfl, by kernel_rfl⟩
noncomputable def C.q3l : MFunc := ⟨17, 1, [.tmp 2],
 (s (r [
 ⟨some 1, none, .box T.apiSession (t 0)⟩,
 b 2 false] [])
 (s (r [
 g 3 6 1,
 l 4 3,
 g 5 5 1,
 l 6 5,
 v 7 (.bin .geq T.int (t 4) (t 6)),
 m 8 7,
 z 9 8 (G 7 1),
 z 10 8 (D 9),
 z 11 8 (n 10),
 z 12 8 (G 3 1),
 z 13 8 (D 12),
 z 14 8 (n 13),
 z 15 8 (B 11 14),
 v 16 (j 8 15),
 m 2 16] [3, 4, 5, 6, 7, 8, 9, 10, 11, 12, 13, 14, 15, 16])
 .ret))⟩
theorem H.q3l : Has P F.q3l C.q3l := ⟨Tryz.f41, Tryz.func41, by kernel_rfl, by kernel_rfl⟩
noncomputable def C.q0t : MRFunc := ⟨20, 1, 5, [],
 (s (r [
 m 2 5] [])
 (s (r [
 m 6 2,
 ⟨some 7, none, .eqNil true .iface (t 6)⟩] [6])
 (s (d 7
 (s (r [
 m 9 2,
 v 10 (.assert T.openingstop (.agg [(.int 0)]) true (t 9)),
 m 8 10,
 x 11 0 8,
 x 12 1 8,
 ⟨some 3, none, .alloc T.openingstop [(.int 0)]⟩,
 y 1 3 11,
 m 4 12] [9, 10, 8, 11, 12])
 (s (s (r [
 m 13 4,
 v 14 (N 13)] [13])
 (d 14
 (r [
 m 15 2,
 ⟨none, none, .panic (t 15)⟩] [15])
 .skip))
 (r [
 m 16 0,
 g 17 0 3,
 l 18 17,
 v 19 (.nilCheck (t 16)),
 y 1 19 18] [16, 17, 18, 19])))
 .skip)
 .skip)))⟩
theorem H.q0t : HasR P F.q0t C.q0t := ⟨Tryz.f42, Tryz.func42, by kernel_rfl, by kernel_rfl⟩
noncomputable def C.q0y : MFunc := ⟨9, 2, [],
 (s (r [
 m 4 0,
 v 5 (N 4)] [4])
 (d 5
 (r [
 m 6 1,
 v 7 (.build [(.int 0)] [(0, 1, (t 6))]),
 v 8 (.mkIface T.openingstop (t 7)),
 ⟨none, none, .panic (t 8)⟩] [6, 7, 8])
 .skip))⟩
theorem H.q0y : Has P F.q0y C.q0y := ⟨Tryz.f43, Tryz.func43, by kernel_rfl, by kernel_rfl⟩
noncomputable def C.q1n : MFunc := ⟨24, 2, [],
 (s (r [
 ⟨some 3, none, .box T.apiAct (t 1)⟩] [])
 (s (.draw false [
 e (g 4 1 3),
 e (l 5 4),
 e (m 6 0),
 e (v 7 (.nilCheck (t 6))),
 e (g 8 0 7),
 e (g 9 6 8),
 e (l 10 9),
 e (v 11 (.bin .geq T.int (t 5) (t 10))),
 e (m 12 11),
 e (w 13 12 (G 1 3)),
 e (w 14 12 (D 13)),
 e (w 15 12 (.bin .lss T.int (t 14) (c 2097152))),
 e (v 16 (k 12 15)),
 h (f 17 F.q0y [(t 16), (c 1)])] [4, 5, 6, 7, 8, 9, 10, 11, 12, 13, 14, 15, 16, 17])
 (r [
 m 18 0,
 g 19 1 3,
 l 20 19,
 v 21 (.nilCheck (t 18)),
 g 22 0 21,
 g 23 6 22,
 y 1 23 20] [18, 19, 20, 21, 22, 23])))⟩
theorem H.q1n : Has P F.q1n C.q1n := ⟨Tryz.f44, Tryz.func44, by kernel_rfl, by kernel_rfl⟩
noncomputable def C.q1o : MFunc := ⟨29, 2, [],
 (s (r [
 ⟨some 3, none, .box T.apiAct (t 1)⟩] [])
 (s (r [
 m 4 0,
 v 5 (.nilCheck (t 4)),
 L 6 10 5,
 f 7 F.q0x [(t 6)],
 v 8 (N 7),
 f 9 F.q0y [(t 8), (c 360)]] [4, 5, 6, 7, 8, 9])
 (s (.draw false [
 e (m 10 0),
 e (v 11 (.nilCheck (t 10))),
 e (L 12 10 11),
 e (g 13 2 3),
 e (L 14 36 13),
 h (f 15 F.q1r [(t 12), (t 14)]),
 h (f 16 F.q0y [(t 15), (c 1)])] [10, 11, 12, 13, 14, 15, 16])
 (.draw true [
 a (m 17 0),
 e (m 18 0),
 e (v 19 (.nilCheck (t 18))),
 e (g 20 0 19),
 e (g 21 7 20),
 e (l 22 21),
 e (g 23 2 3),
 e (L 24 36 23),
 h (⟨some 25, none, .call (.const (.func (.func F.q1h) [] [])) [(t 22), (t 24), (.const (.func (.func F.q2k) [] [])), (.const (.func (.func F.q2z) [] []))]⟩),
 a (v 26 (.nilCheck (t 17))),
 a (g 27 0 26),
 a (g 28 7 27),
 (.last, y 1 28 25)] [17, 18, 19, 20, 21, 22, 23, 24, 25, 26, 27, 28]))))⟩
theorem H.q1o : Has P F.q1o C.q1o := ⟨Tryz.f45, Tryz.func45, by kernel_rfl, by kernel_rfl⟩
noncomputable def C.q1g : MFunc := ⟨28, 2, [],
 (s (r [
 ⟨some 3, none, .box T.apiAct (t 1)⟩] [])
 (s (r [
 m 4 0,
 v 5 (.nilCheck (t 4)),
 L 6 10 5,
 f 7 F.q0x [(t 6)],
 f 8 F.q0y [(t 7), (c 360)]] [4, 5, 6, 7, 8])
 (s (.draw false [
 e (m 9 0),
 e (v 10 (.nilCheck (t 9))),
 e (L 11 10 10),
 e (g 12 38 3),
 e (L 13 4 12),
 h (f 14 F.q1i [(t 11), (t 13)]),
 h (f 15 F.q0y [(t 14), (c 1)])] [9, 10, 11, 12, 13, 14, 15])
 (.draw true [
 a (m 16 0),
 e (m 17 0),
 e (v 18 (.nilCheck (t 17))),
 e (g 19 0 18),
 e (g 20 8 19),
 e (l 21 20),
 e (g 22 38 3),
 e (L 23 4 22),
 h (⟨some 24, none, .call (.const (.func (.func F.q1a) [] [])) [(t 21), (t 23), (.const (.func (.func F.q2b) [] [])), (.const (.func (.func F.q2p) [] []))]⟩),
 a (v 25 (.nilCheck (t 16))),
 a (g 26 0 25),
 a (g 27 8 26),
 (.last, y 1 27 24)] [16, 17, 18, 19, 20, 21, 22, 23, 24, 25, 26, 27]))))⟩
theorem H.q1g : Has P F.q1g C.q1g := ⟨Tryz.f46, Tryz.func46, by kernel_rfl, by kernel_rfl⟩
noncomputable def C.q1p : MFunc := ⟨28, 2, [],
 (s (r [
 ⟨some 3, none, .box T.apiAct (t 1)⟩] [])
 (s (r [
 m 4 0,
 v 5 (.nilCheck (t 4)),
 L 6 10 5,
 f 7 F.q0x [(t 6)],
 f 8 F.q0y [(t 7), (c 360)]] [4, 5, 6, 7, 8])
 (s (.draw false [
 e (m 9 0),
 e (v 10 (.nilCheck (t 9))),
 e (L 11 10 10),
 e (g 12 42 3),
 e (L 13 34 12),
 h (f 14 F.q1s [(t 11), (t 13)]),
 h (f 15 F.q0y [(t 14), (c 1)])] [9, 10, 11, 12, 13, 14, 15])
 (.draw true [
 a (m 16 0),
 e (m 17 0),
 e (v 18 (.nilCheck (t 17))),
 e (g 19 0 18),
 e (g 20 9 19),
 e (l 21 20),
 e (g 22 42 3),
 e (L 23 34 22),
 h (⟨some 24, none, .call (.const (.func (.func F.q1t) [] [])) [(t 21), (t 23), (.const (.func (.func F.q2c) [] [])), (.const (.func (.func F.q2q) [] []))]⟩),
 a (v 25 (.nilCheck (t 16))),
 a (g 26 0 25),
 a (g 27 9 26),
 (.last, y 1 27 24)] [16, 17, 18, 19, 20, 21, 22, 23, 24, 25, 26, 27]))))⟩
theorem H.q1p : Has P F.q1p C.q1p := ⟨Tryz.f47, Tryz.func47, by kernel_rfl, by kernel_rfl⟩
noncomputable def C.q1q : MFunc := ⟨46, 2, [.cell 4 2 true],
 (s (r [
 ⟨some 2, none, .box T.q47 (t 0)⟩,
 ⟨some 4, none, .alloc T.apiOpened q3⟩] [])
 (s (s (r [
 L 11 10 2,
 f 12 F.q0x [(t 11)],
 v 13 (N 12)] [11, 12])
 (d 13
 (s (r [
 L 14 2 4,
 y 2 4 14] [14])
 .ret)
 .skip))
 (s (r [
 L 16 10 2,
 m 17 1,
 f 18 F.q2f [(t 16), (t 17)],
 m 15 18,
 x 19 0 15,
 x 20 1 15,
 ⟨some 5, none, .alloc T.apiSealed (.int 0 :: .int 0 :: .int 0 :: .nil :: o ([]))⟩,
 y 36 5 19,
 m 6 20] [16, 17, 18, 15, 19, 20])
 (s (s (r [
 m 21 6,
 v 22 (N 21)] [21])
 (d 22
 (s (r [
 v 23 (.build q3 [(0, 1, (c 3))]),
 y 2 4 23] [23])
 .ret)
 .skip))
 (s (s (r [
 L 24 10 2,
 v 25 (.mkFunc (.func F.q1c) [(t 24)] []),
 L 26 10 2,
 v 27 (.mkFunc (.func F.q15) [(t 26)] []),
 L 28 10 2,
 v 29 (.mkFunc (.func F.q2g) [(t 28)] []),
 v 30 (.buildSlice T.q48 3 [(.val .nilFunc), (.val .nilFunc), (.val .nilFunc)] [(0, 1, (t 25)), (1, 1, (t 27)), (2, 1, (t 29))]),
 v 31 (n 30),
 i 32 0] [24, 25, 26, 27, 28, 29])
 (.block 0 (.loop (s (r [
 v 33 (A 32 31)] [])
 (s (d 33
 .skip
 (.exit 0))
 (s (.block 1 (s (r [
 v 34 (I 1 30 32),
 l 35 34,
 m 8 35] [34, 35])
 (s (r [
 m 37 8,
 L 38 36 5,
 ⟨some 39, none, .call (t 37) [(t 38)]⟩,
 m 36 39,
 x 40 0 36,
 x 41 1 36,
 ⟨some 9, none, .alloc T.apiOpened q3⟩,
 y 2 9 40,
 m 10 41] [37, 38, 39, 36, 40, 41])
 (s (r [
 m 42 10] [])
 (d 42
 (s (r [
 L 43 2 9,
 y 2 4 43] [43])
 .ret)
 .skip)))))
 (r [
 v 44 (p 32 1),
 m 32 44] [44])))))))
 (s (r [
 L 45 2 4,
 y 2 4 45] [45])
 .ret))))))⟩
theorem H.q1q : Has P F.q1q C.q1q := ⟨Tryz.f53, Tryz.func53, by kernel_rfl, by kernel_rfl⟩
noncomputable def C.q36 : MFunc := ⟨107, 2, [.cell 4 2 true],
 (s (r [
 ⟨some 2, none, .box T.apiSession (t 0)⟩,
 ⟨some 4, none, .alloc T.apiOpened q3⟩] [])
 (s (r [
 L 16 10 2,
 m 17 1,
 f 18 F.q3m [(t 16), (t 17)],
 m 5 18] [16, 17, 18])
 (s (s (r [
 m 19 5,
 v 20 (.bin .lss T.int (t 19) (c 0))] [19])
 (d 20
 (s (r [
 v 21 (.build q3 [(0, 1, (c 3))]),
 y 2 4 21] [21])
 .ret)
 .skip))
 (s (s (r [
 i 6 0] [])
 (.block 0 (.loop (s (s (r [
 m 22 6,
 g 23 9 2,
 l 24 23,
 v 25 (n 24),
 v 26 (A 22 25)] [22, 23, 24, 25])
 (d 26
 .skip
 (.exit 0)))
 (s (.block 1 (s (r [
 g 29 9 2,
 l 30 29,
 m 31 6,
 v 32 (I 34 30 31),
 g 33 0 32,
 l 34 33,
 m 35 1,
 v 36 (B 34 35)] [29, 30, 31, 32, 33, 34, 35])
 (d 36
 (s (.draw true [
 e (g 38 7 2),
 e (l 39 38),
 e (m 40 5),
 e (v 41 (I 36 39 40)),
 e (L 42 36 41),
 e (g 43 9 2),
 e (l 44 43),
 e (m 45 6),
 e (v 46 (I 34 44 45)),
 e (g 47 1 46),
 e (l 48 47),
 e (g 49 9 2),
 e (l 50 49),
 e (m 51 6),
 e (v 52 (I 34 50 51)),
 e (g 53 2 52),
 e (L 54 32 53),
 h (f 55 F.q2h [(t 42), (t 48), (t 54)]),
 a (m 37 55),
 a (x 56 0 37),
 a (x 57 1 37),
 a (x 58 2 37),
 a (m 7 56),
 a (m 8 57),
 a (m 9 58)] [38, 39, 40, 41, 42, 43, 44, 45, 46, 47, 48, 49, 50, 51, 52, 53, 54, 55, 37, 56, 57, 58, 8, 9])
 (s (r [
 m 59 7,
 v 60 (.build q3 [(0, 1, (c 1)), (1, 1, (t 59))]),
 y 2 4 60] [59, 60])
 .ret))
 .skip)))
 (r [
 m 27 6,
 v 28 (p 27 1),
 m 6 28] [27, 28]))))))
 (s (r [
 v 61 (.buildSlice T.int 0 [] []),
 m 10 61] [61])
 (s (s (r [
 i 11 0] [])
 (.block 2 (.loop (s (s (r [
 m 62 11,
 g 63 2 2,
 l 64 63,
 v 65 (A 62 64)] [62, 63, 64])
 (d 65
 .skip
 (.exit 2)))
 (s (.block 3 (s (r [
 L 69 10 2,
 m 70 1,
 m 71 11,
 f 72 F.q4e [(t 69), (t 70), (t 71)],
 m 68 72,
 x 73 0 68,
 x 74 1 68,
 m 12 73,
 m 13 74] [69, 70, 71, 72, 68, 73, 74])
 (s (r [
 m 75 13] [])
 (d 75
 (r [
 m 76 10,
 m 77 12,
 v 78 (.buildSlice T.int 1 [(.int 0)] [(0, 1, (t 77))]),
 ⟨some 79, none, .append T.int 8 1 (t 76) (t 78)⟩,
 m 10 79] [76, 77, 78, 79])
 .skip))))
 (r [
 m 66 11,
 v 67 (p 66 1),
 m 11 67] [66, 67]))))))
 (s (s (r [
 m 80 10,
 v 81 (n 80),
 g 82 2 2,
 l 83 82,
 v 84 (B 81 83)] [80, 81, 82, 83])
 (d 84
 (s (r [
 g 86 7 2,
 l 87 86,
 m 88 5,
 v 89 (I 36 87 88),
 L 90 36 89,
 m 91 10,
 f 92 F.q3a [(t 90), (t 91)],
 m 85 92,
 x 93 0 85,
 x 94 1 85,
 m 14 93,
 m 15 94] [86, 87, 88, 89, 90, 91, 92, 85, 93, 94])
 (s (r [
 m 95 15,
 v 96 (.bin .eql T.apiErrno (t 95) (c 0))] [95])
 (d 96
 (s (r [
 m 97 14,
 v 98 (.build q3 [(0, 1, (c 2)), (1, 1, (t 97))]),
 y 2 4 98] [97, 98])
 .ret)
 .skip)))
 .skip))
 (s (s (r [
 g 99 6 2,
 l 100 99,
 g 101 5 2,
 l 102 101,
 v 103 (p 102 1440),
 v 104 (.bin .geq T.int (t 100) (t 103))] [99, 100, 101, 102, 103])
 (d 104
 (s (r [
 v 105 (.build q3 [(0, 1, (c 3))]),
 y 2 4 105] [105])
 .ret)
 .skip))
 (s (r [
 v 106 (.build q3 []),
 y 2 4 106] [106])
 .ret)))))))))⟩
theorem H.q36 : Has P F.q36 C.q36 := ⟨Tryz.f54, Tryz.func54, by kernel_rfl, by kernel_rfl⟩
noncomputable def C.q3q : MFunc := ⟨89, 1, [.tmp 2],
 (s (r [
 ⟨some 1, none, .box T.apiSession (t 0)⟩,
 b 2 false] [])
 (s (s (.region (
 g 4 0 1 ::
 l 5 4 ::
 f 6 F.q03 [(t 5), (c 8)] ::
 v 7 (N 6) ::
 m 8 7 ::
 z 9 8 (G 1 1) ::
 z 10 8 (D 9) ::
 ⟨some 11, some (8, false), .call (.const (.func (.func F.q03) [] [])) [(t 10), (c 4096)]⟩ ::
 z 12 8 (N 11) ::
 v 13 (j 8 12) ::
 m 14 13 ::
 z 15 14 (G 2 1) ::
 z 16 14 (D 15) ::
 z 17 14 (.bin .lss T.int (t 16) (c 1)) ::
 v 18 (j 14 17) ::
 m 19 18 ::
 z 20 19 (G 2 1) ::
 z 21 19 (D 20) ::
 z 22 19 (.bin .gtr T.int (t 21) (c 64)) ::
 v 23 (j 19 22) ::
 m 24 23 ::
 z 25 24 (G 3 1) ::
 z 26 24 (D 25) ::
 z 27 24 (n 26) ::
 z 28 24 (.bin .lss T.int (t 27) (c 1)) ::
 v 29 (j 24 28) ::
 m 30 29 ::
 z 31 30 (G 3 1) ::
 z 32 30 (D 31) ::
 z 33 30 (n 32) ::
 z 34 30 (.bin .gtr T.int (t 33) (c 24)) ::
 v 35 (j 30 34) :: []) (4 :: 5 :: 6 :: 7 :: 8 :: 9 :: 10 :: 11 :: 12 :: 13 :: 14 :: 15 :: 16 :: 17 :: 18 :: 19 :: 20 :: 21 :: 22 :: 23 :: 24 :: 25 :: 26 :: 27 :: 28 :: 29 :: 30 :: 31 :: 32 :: 33 :: 34 :: []))
 (d 35
 (s (r [
 b 2 false] [])
 .ret)
 .skip))
 (s (s (r [
 i 3 0] [])
 (.block 0 (.loop (s (s (r [
 m 36 3,
 g 37 3 1,
 l 38 37,
 v 39 (n 38),
 v 40 (A 36 39)] [36, 37, 38, 39])
 (d 40
 .skip
 (.exit 0)))
 (s (.block 1 (s (.draw true [
 e (g 43 3 1),
 e (l 44 43),
 e (m 45 3),
 e (v 46 (I 1 44 45)),
 e (l 47 46),
 h (f 48 F.q03 [(t 47), (c 256)]),
 a (v 49 (N 48)),
 a (m 50 49),
 a (z 51 50 (M 3)),
 a (z 52 50 (.bin .gtr T.int (t 51) (c 0))),
 a (z 53 50 (M 52)),
 a (w 54 53 (G 3 1)),
 a (w 55 53 (D 54)),
 a (w 56 53 (M 3)),
 a (w 57 53 (.bin .sub T.int (t 56) (c 1))),
 a (w 58 53 (I 1 55 57)),
 a (w 59 53 (D 58)),
 a (w 60 53 (G 3 1)),
 a (w 61 53 (D 60)),
 a (w 62 53 (M 3)),
 a (w 63 53 (I 1 61 62)),
 a (w 64 53 (D 63)),
 a (w 65 53 (.bin .geq T.int (t 59) (t 64))),
 a (z 66 50 (k 53 65)),
 a (v 67 (j 50 66))] [43, 44, 45, 46, 47, 48, 49, 50, 51, 52, 53, 54, 55, 56, 57, 58, 59, 60, 61, 62, 63, 64, 65, 66])
 (d 67
 (s (r [
 b 2 false] [])
 .ret)
 .skip)))
 (r [
 m 41 3,
 v 42 (p 41 1),
 m 3 42] [41, 42]))))))
 (s (r [
 g 68 4 1,
 l 69 68,
 v 70 (.bin .geq T.int (t 69) (c 1)),
 m 71 70,
 w 72 71 (G 4 1),
 w 73 71 (D 72),
 w 74 71 (G 3 1),
 w 75 71 (D 74),
 w 76 71 (n 75),
 w 77 71 (.bin .leq T.int (t 73) (t 76)),
 v 78 (k 71 77),
 m 79 78,
 w 80 79 (G 5 1),
 w 81 79 (D 80),
 ⟨some 82, some (79, true), .call (.const (.func (.func F.q03) [] [])) [(t 81), (c 2097152)]⟩,
 v 83 (k 79 82),
 m 84 83,
 w 85 84 (G 6 1),
 w 86 84 (D 85),
 ⟨some 87, some (84, true), .call (.const (.func (.func F.q03) [] [])) [(t 86), (c 2097152)]⟩,
 v 88 (k 84 87),
 m 2 88] [68, 69, 70, 71, 72, 73, 74, 75, 76, 77, 78, 79, 80, 81, 82, 83, 84, 85, 86, 87, 88])
 .ret))))⟩
theorem H.q3q : Has P F.q3q C.q3q := ⟨Tryz.f55, Tryz.func55, by kernel_rfl, by kernel_rfl⟩
noncomputable def C.q3z : MFunc := ⟨38, 2, [.tmp 4],
 (s (r [
 ⟨some 2, none, .box T.apiSession (t 0)⟩,
 ⟨some 3, none, .box T.apiSealed (t 1)⟩,
 b 4 false] [])
 (s (.region (
 L 5 36 3 ::
 f 6 F.q18 [(t 5)] ::
 v 7 (.bin .eql T.apiErrno (t 6) (c 0)) ::
 m 8 7 ::
 w 9 8 (G 0 3) ::
 w 10 8 (D 9) ::
 w 11 8 (G 0 2) ::
 w 12 8 (D 11) ::
 w 13 8 (B 10 12) ::
 v 14 (k 8 13) ::
 m 15 14 ::
 w 16 15 (G 1 3) ::
 w 17 15 (D 16) ::
 w 18 15 (G 1 2) ::
 w 19 15 (D 18) ::
 w 20 15 (B 17 19) ::
 v 21 (k 15 20) ::
 m 22 21 ::
 w 23 22 (G 3 2) ::
 w 24 22 (D 23) ::
 w 25 22 (G 2 3) ::
 w 26 22 (D 25) ::
 ⟨some 27, some (22, true), .call (.const (.func (.func F.q2r) [] [])) [(t 24), (t 26)]⟩ ::
 w 28 22 (.bin .geq T.int (t 27) (c 0)) ::
 v 29 (k 22 28) ::
 m 30 29 ::
 w 31 30 (G 3 3) ::
 w 32 30 (D 31) ::
 w 33 30 (n 32) ::
 w 34 30 (G 2 2) ::
 w 35 30 (D 34) ::
 w 36 30 (B 33 35) ::
 v 37 (k 30 36) ::
 m 4 37 :: []) (5 :: 6 :: 7 :: 8 :: 9 :: 10 :: 11 :: 12 :: 13 :: 14 :: 15 :: 16 :: 17 :: 18 :: 19 :: 20 :: 21 :: 22 :: 23 :: 24 :: 25 :: 26 :: 27 :: 28 :: 29 :: 30 :: 31 :: 32 :: 33 :: 34 :: 35 :: 36 :: 37 :: []))
 .ret))⟩
theorem H.q3z : Has P F.q3z C.q3z := ⟨Tryz.f56, Tryz.func56, by kernel_rfl, by kernel_rfl⟩
noncomputable def C.q3r : MFunc := ⟨38, 2, [.tmp 4],
 (s (r [
 ⟨some 2, none, .box T.apiSession (t 0)⟩,
 ⟨some 3, none, .box T.apiKeyShare (t 1)⟩,
 b 4 false] [])
 (s (.region (
 g 5 3 2 ::
 l 6 5 ::
 g 7 0 3 ::
 l 8 7 ::
 f 9 F.q2r [(t 6), (t 8)] ::
 v 10 (.bin .geq T.int (t 9) (c 0)) ::
 m 11 10 ::
 w 12 11 (G 3 2) ::
 w 13 11 (D 12) ::
 w 14 11 (G 2 3) ::
 w 15 11 (D 14) ::
 ⟨some 16, some (11, true), .call (.const (.func (.func F.q2r) [] [])) [(t 13), (t 15)]⟩ ::
 w 17 11 (.bin .geq T.int (t 16) (c 0)) ::
 v 18 (k 11 17) ::
 m 19 18 ::
 w 20 19 (G 0 3) ::
 w 21 19 (D 20) ::
 w 22 19 (G 2 3) ::
 w 23 19 (D 22) ::
 w 24 19 (.bin .neq T.int (t 21) (t 23)) ::
 v 25 (k 19 24) ::
 m 26 25 ::
 w 27 26 (G 1 3) ::
 w 28 26 (D 27) ::
 w 29 26 (G 2 2) ::
 w 30 26 (D 29) ::
 ⟨some 31, some (26, true), .call (.const (.func (.func F.q03) [] [])) [(t 28), (t 30)]⟩ ::
 v 32 (k 26 31) ::
 m 33 32 ::
 w 34 33 (G 3 3) ::
 w 35 33 (D 34) ::
 ⟨some 36, some (33, true), .call (.const (.func (.func F.q03) [] [])) [(t 35), (c 1073741789)]⟩ ::
 v 37 (k 33 36) ::
 m 4 37 :: []) (5 :: 6 :: 7 :: 8 :: 9 :: 10 :: 11 :: 12 :: 13 :: 14 :: 15 :: 16 :: 17 :: 18 :: 19 :: 20 :: 21 :: 22 :: 23 :: 24 :: 25 :: 26 :: 27 :: 28 :: 29 :: 30 :: 31 :: 32 :: 33 :: 34 :: 35 :: 36 :: 37 :: []))
 .ret))⟩
theorem H.q3r : Has P F.q3r C.q3r := ⟨Tryz.f57, Tryz.func57, by kernel_rfl, by kernel_rfl⟩
noncomputable def C.q09 : MFunc := ⟨30, 2, [.tmp 4],
 (s (r [
 ⟨some 2, none, .box T.apiKeyShare (t 0)⟩,
 ⟨some 3, none, .box T.apiKeyShare (t 1)⟩,
 b 4 false] [])
 (s (s (r [
 g 5 0 2,
 l 6 5,
 g 7 0 3,
 l 8 7,
 v 9 (.bin .neq T.int (t 6) (t 8))] [5, 6, 7, 8])
 (d 9
 (s (r [
 g 10 0 2,
 l 11 10,
 g 12 0 3,
 l 13 12,
 v 14 (A 11 13),
 m 4 14] [10, 11, 12, 13, 14])
 .ret)
 .skip))
 (s (s (r [
 g 15 1 2,
 l 16 15,
 g 17 1 3,
 l 18 17,
 v 19 (.bin .neq T.int (t 16) (t 18))] [15, 16, 17, 18])
 (d 19
 (s (r [
 g 20 1 2,
 l 21 20,
 g 22 1 3,
 l 23 22,
 v 24 (A 21 23),
 m 4 24] [20, 21, 22, 23, 24])
 .ret)
 .skip))
 (s (r [
 g 25 2 2,
 l 26 25,
 g 27 2 3,
 l 28 27,
 v 29 (A 26 28),
 m 4 29] [25, 26, 27, 28, 29])
 .ret))))⟩
theorem H.q09 : Has P F.q09 C.q09 := ⟨Tryz.f58, Tryz.func58, by kernel_rfl, by kernel_rfl⟩
noncomputable def C.q2o : MFunc := ⟨34, 2, [.tmp 4],
 (s (r [
 ⟨some 2, none, .box T.apiSession (t 0)⟩,
 ⟨some 3, none, .box T.apiShown (t 1)⟩,
 b 4 false] [])
 (s (r [
 L 9 10 2,
 g 10 0 3,
 l 11 10,
 f 12 F.q3m [(t 9), (t 11)],
 m 5 12] [9, 10, 11, 12])
 (s (s (r [
 m 13 5,
 v 14 (.bin .lss T.int (t 13) (c 0))] [13])
 (d 14
 (s (r [
 b 4 false] [])
 .ret)
 .skip))
 (s (.draw true [
 e (g 16 7 2),
 e (l 17 16),
 e (m 18 5),
 e (v 19 (I 36 17 18)),
 e (L 20 36 19),
 e (g 21 1 3),
 e (l 22 21),
 e (g 23 2 3),
 e (L 24 32 23),
 h (f 25 F.q2h [(t 20), (t 22), (t 24)]),
 a (m 15 25),
 a (x 26 0 15),
 a (x 27 1 15),
 a (x 28 2 15),
 a (m 6 26),
 a (m 7 27),
 a (m 8 28)] [16, 17, 18, 19, 20, 21, 22, 23, 24, 25, 15, 26, 27, 28, 6])
 (s (r [
 m 29 7,
 m 30 29,
 w 31 30 (M 8),
 w 32 30 (.bin .eql T.apiErrno (t 31) (c 0)),
 v 33 (k 30 32),
 m 4 33] [29, 30, 31, 32, 33])
 .ret)))))⟩
theorem H.q2o : Has P F.q2o C.q2o := ⟨Tryz.f59, Tryz.func59, by kernel_rfl, by kernel_rfl⟩
noncomputable def C.q4v : MFunc := ⟨19, 1, [.tmp 2],
 (s (r [
 i 2 0] [])
 (s (r [
 i 3 0] [])
 (s (s (r [
 m 6 0,
 v 7 (n 6),
 i 8 0] [])
 (.block 0 (.loop (s (r [
 v 9 (A 8 7)] [])
 (s (d 9
 .skip
 (.exit 0))
 (s (.block 1 (s (r [
 v 10 (I 1 6 8),
 l 11 10,
 m 5 11] [10, 11])
 (r [
 m 12 3,
 m 13 5,
 f 14 F.q3e [(t 13)],
 v 15 (.bin .add T.int (t 12) (t 14)),
 v 16 (.bin .rem T.int (t 15) (c 1073741789)),
 m 3 16] [12, 13, 14, 15, 16])))
 (r [
 v 17 (p 8 1),
 m 8 17] [17])))))))
 (s (r [
 m 18 3,
 m 2 18] [18])
 .ret))))⟩
theorem H.q4v : Has P F.q4v C.q4v := ⟨Tryz.f60, Tryz.func60, by kernel_rfl, by kernel_rfl⟩
noncomputable def C.q0q : MRFunc := ⟨14, 1, 5, [],
 (s (.block 0 (s (r [
 ⟨some 7, none, .eqNil false .iface (t 5)⟩] [])
 (d 7
 (r [
 m 2 5] [2])
 (s (r [
 v 8 (.assert T.apiErrno (.int 0) true (t 5)),
 x 9 1 8,
 x 10 0 8] [8])
 (d 9
 (s (r [
 m 3 10] [])
 (r [
 m 11 0,
 m 12 3,
 v 13 (.nilCheck (t 11)),
 y 1 13 12] [11, 12, 13]))
 (s (r [
 m 4 5] [])
 (r [
 m 6 4,
 ⟨none, none, .panic (t 6)⟩] [6])))))))
 .skip)⟩
theorem H.q0q : HasR P F.q0q C.q0q := ⟨Tryz.f61, Tryz.func61, by kernel_rfl, by kernel_rfl⟩
noncomputable def C.q4r : MFunc := ⟨25, 2, [.tmp 4],
 (s (r [
 ⟨some 2, none, .box T.apiSealed (t 0)⟩,
 v 4 (.mv (.const .nil))] [])
 (s (r [
 L 5 36 2,
 f 6 F.q4i [(t 5)],
 v 7 (.bin .eql T.apiErrno (t 6) (c 0)),
 m 8 7,
 w 9 8 (M 1),
 ⟨some 10, some (8, true), .call (.const (.func (.func F.q4p) [] [])) [(t 9), (c 1073741788)]⟩,
 v 11 (k 8 10),
 m 12 11,
 w 13 12 (M 1),
 w 14 12 (n 13),
 w 15 12 (G 3 2),
 w 16 12 (D 15),
 w 17 12 (n 16),
 w 18 12 (B 14 17),
 v 19 (k 12 18),
 f 20 F.q33 [(t 19)]] [5, 6, 7, 8, 9, 10, 11, 12, 13, 14, 15, 16, 17, 18, 19, 20])
 (s (r [
 g 21 3 2,
 l 22 21,
 m 23 1,
 ⟨some 24, none, .call (.const (.func (.func F.q1b) [] [])) [(t 22), (t 23), (.const (.func (.func F.q4n) [] []))]⟩,
 m 4 24] [21, 22, 23, 24])
 .ret)))⟩
theorem H.q4r : Has P F.q4r C.q4r := ⟨Tryz.f62, Tryz.func62, by kernel_rfl, by kernel_rfl⟩
noncomputable def C.q33 : MFunc := ⟨5, 1, [],
 (s (r [
 m 2 0,
 v 3 (N 2)] [2])
 (d 3
 (r [
 v 4 (.mkIface T.apiErrno (c 340)),
 ⟨none, none, .panic (t 4)⟩] [4])
 .skip))⟩
theorem H.q33 : Has P F.q33 C.q33 := ⟨Tryz.f63, Tryz.func63, by kernel_rfl, by kernel_rfl⟩
noncomputable def C.q4p : MFunc := ⟨17, 2, [.tmp 4],
 (s (r [
 ⟨some 3, none, .box T.int (t 1)⟩,
 b 4 false] [])
 (s (r [
 v 6 (.mkFunc (.func F.q4j) [] [(t 3)]),
 m 5 6] [6])
 (s (r [
 m 7 0,
 v 8 (n 7),
 v 9 (.bin .sub T.int (t 8) (c 1)),
 f 10 F.q3w [(t 9), (c 63)],
 m 11 10,
 w 12 11 (M 0),
 w 13 11 (M 5),
 ⟨some 14, some (11, true), .call (.const (.func (.func F.q0n) [] [])) [(t 12), (t 13)]⟩,
 w 15 11 (N 14),
 v 16 (k 11 15),
 m 4 16] [7, 8, 9, 10, 11, 12, 13, 14, 15, 16])
 .ret)))⟩
theorem H.q4p : Has P F.q4p C.q4p := ⟨Tryz.f64, Tryz.func64, by kernel_rfl, by kernel_rfl⟩
noncomputable def C.q3e : MFunc := ⟨10, 1, [.tmp 2],
 (s (r [
 i 2 0] [])
 (s (s (r [
 m 3 0,
 v 4 (.bin .rem T.int (t 3) (c 1073741789)),
 m 2 4] [3, 4])
 (s (r [
 m 5 2,
 v 6 (.bin .lss T.int (t 5) (c 0))] [5])
 (d 6
 (r [
 m 7 2,
 v 8 (p 7 1073741789),
 m 2 8] [7, 8])
 .skip)))
 (s (r [
 m 9 2,
 m 2 9] [9])
 .ret)))⟩
theorem H.q3e : Has P F.q3e C.q3e := ⟨Tryz.f65, Tryz.func65, by kernel_rfl, by kernel_rfl⟩
noncomputable def C.q4u : MFunc := ⟨6, 2, [.tmp 4],
 (s (r [
 ⟨some 2, none, .box T.LapiPoint (t 0)⟩,
 ⟨some 3, none, .box T.int (t 1)⟩,
 v 4 (.mv (.const (.val .nilFunc)))] [])
 (s (r [
 v 5 (.mkFunc (.func F.q3s) [] [(t 2), (t 3)]),
 m 4 5] [5])
 .ret))⟩
theorem H.q4u : Has P F.q4u C.q4u := ⟨Tryz.f66, Tryz.func66, by kernel_rfl, by kernel_rfl⟩
noncomputable def C.q4l : MFunc := ⟨11, 2, [.tmp 4],
 (s (r [
 i 4 0] [])
 (s (r [
 m 5 0,
 f 6 F.q3e [(t 5)],
 m 7 1,
 f 8 F.q3e [(t 7)],
 v 9 (.bin .mul T.int (t 6) (t 8)),
 v 10 (.bin .rem T.int (t 9) (c 1073741789)),
 m 4 10] [5, 6, 7, 8, 9, 10])
 .ret))⟩
theorem H.q4l : Has P F.q4l C.q4l := ⟨Tryz.f67, Tryz.func67, by kernel_rfl, by kernel_rfl⟩
noncomputable def C.q4g : MFunc := ⟨26, 1, [.tmp 2, .tmp 3],
 (s (r [
 i 2 0,
 i 3 0] [])
 (s (s (r [
 m 6 0,
 f 7 F.q3e [(t 6)],
 v 8 (.bin .eql T.int (t 7) (c 0))] [6, 7])
 (d 8
 (s (r [
 i 2 0,
 i 3 120] [])
 .ret)
 .skip))
 (s (r [
 i 2 1] [])
 (s .skip
 (s (s (r [
 m 9 0,
 i 4 1073741787,
 m 5 9] [9])
 (.block 0 (.loop (s (.block 1 (.block 2 (s (r [
 m 16 4,
 v 17 (.bin .eql T.int (t 16) (c 0)),
 m 15 17] [16, 17])
 (d 15
 (.exit 0)
 (s (r [
 m 19 4,
 v 20 (.bin .rem T.int (t 19) (c 2)),
 v 21 (.bin .eql T.int (t 20) (c 1)),
 m 18 21] [19, 20, 21])
 (d 18
 (r [
 m 22 2,
 m 23 5,
 f 24 F.q4l [(t 22), (t 23)],
 m 2 24] [22, 23, 24])
 .skip))))))
 (r [
 m 10 4,
 v 11 (.bin .quo T.int (t 10) (c 2)),
 m 12 5,
 m 13 5,
 f 14 F.q4l [(t 12), (t 13)],
 m 4 11,
 m 5 14] [10, 11, 12, 13, 14])))))
 (s (r [
 m 25 2,
 m 2 25,
 i 3 0] [25])
 .ret))))))⟩
theorem H.q4g : Has P F.q4g C.q4g := ⟨Tryz.f68, Tryz.func68, by kernel_rfl, by kernel_rfl⟩
noncomputable def C.q2j : MFunc := ⟨16, 1, [],
 (s (r [
 ⟨some 1, none, .box T.apiSealed (t 0)⟩] [])
 (r [
 g 2 0 1,
 l 3 2,
 f 4 F.q3w [(t 3), (c 7)],
 m 5 4,
 w 6 5 (G 1 1),
 w 7 5 (D 6),
 ⟨some 8, some (5, true), .call (.const (.func (.func F.q3w) [] [])) [(t 7), (c 4095)]⟩,
 v 9 (k 5 8),
 m 10 9,
 w 11 10 (G 2 1),
 w 12 10 (D 11),
 ⟨some 13, some (10, true), .call (.const (.func (.func F.q3w) [] [])) [(t 12), (c 255)]⟩,
 v 14 (k 10 13),
 f 15 F.q33 [(t 14)]] [2, 3, 4, 5, 6, 7, 8, 9, 10, 11, 12, 13, 14, 15]))⟩
theorem H.q2j : Has P F.q2j C.q2j := ⟨Tryz.f69, Tryz.func69, by kernel_rfl, by kernel_rfl⟩
noncomputable def C.q1b : MFunc := ⟨28, 3, [.tmp 6],
 (s (r [
 v 6 (.mv (.const .nil))] [])
 (s (s (r [
 m 9 0,
 v 10 (n 9),
 i 11 0] [])
 (.block 0 (.loop (s (r [
 v 12 (A 11 10)] [])
 (s (d 12
 .skip
 (.exit 0))
 (s (.block 1 (s (r [
 m 13 11,
 v 14 (I 1 9 11),
 l 15 14,
 m 7 13,
 m 8 15] [13, 14, 15])
 (r [
 m 16 6,
 m 17 2,
 m 18 8,
 m 19 1,
 m 20 7,
 v 21 (I 1 19 20),
 l 22 21,
 ⟨some 23, none, .call (t 17) [(t 18), (t 22)]⟩,
 v 24 (.buildSlice T.int 1 [(.int 0)] [(0, 1, (t 23))]),
 ⟨some 25, none, .append T.int 8 1 (t 16) (t 24)⟩,
 m 6 25] [16, 17, 18, 19, 20, 21, 22, 23, 24, 25])))
 (r [
 v 26 (p 11 1),
 m 11 26] [26])))))))
 (s (r [
 m 27 6,
 m 6 27] [27])
 .ret)))⟩
theorem H.q1b : Has P F.q1b C.q1b := ⟨Tryz.f70, Tryz.func70, by kernel_rfl, by kernel_rfl⟩
noncomputable def C.q4m : MFunc := ⟨9, 2, [.tmp 4],
 (s (r [
 i 4 0] [])
 (s (r [
 m 5 0,
 m 6 1,
 v 7 (.bin .add T.int (t 5) (t 6)),
 v 8 (.bin .rem T.int (t 7) (c 1073741789)),
 m 4 8] [5, 6, 7, 8])
 .ret))⟩
theorem H.q4m : Has P F.q4m C.q4m := ⟨Tryz.f71, Tryz.func71, by kernel_rfl, by kernel_rfl⟩
noncomputable def C.q4a : MFunc := ⟨35, 4, [.cell 8 32 true],
 (s (r [
 ⟨some 4, none, .box T.apiSealed (t 0)⟩,
 ⟨some 7, none, .box T.apiDigest (t 3)⟩,
 ⟨some 8, none, .alloc T.apiDigest (o ([]))⟩] [])
 (s (.draw true [
 e (g 12 0 4),
 e (l 13 12),
 e (v 14 (.mkIface T.int (t 13))),
 e (g 15 1 4),
 e (l 16 15),
 e (v 17 (.mkIface T.int (t 16))),
 e (g 18 2 4),
 e (l 19 18),
 e (v 20 (.mkIface T.int (t 19))),
 e (m 21 1),
 e (v 22 (.mkIface T.Lint (t 21))),
 e (m 23 2),
 e (v 24 (.mkIface T.Lint (t 23))),
 e (v 25 (.sliceArr 32 1 (t 7) none none none)),
 e (v 26 (.strOf (t 25))),
 e (v 27 (.mkIface T.string (t 26))),
 e (v 28 (.buildSlice T.interface 6 [(.val .nilIface), (.val .nilIface), (.val .nilIface), (.val .nilIface), (.val .nilIface), (.val .nilIface)] [(0, 1, (t 14)), (1, 1, (t 17)), (2, 1, (t 20)), (3, 1, (t 22)), (4, 1, (t 24)), (5, 1, (t 27))])),
 h (f 29 F.q3i [(t 28)]),
 h (f 30 F.q4q [(t 29)]),
 a (m 11 30),
 a (x 31 0 11),
 a (x 32 1 11),
 a (m 9 31),
 a (m 10 32)] [12, 13, 14, 15, 16, 17, 18, 19, 20, 21, 22, 23, 24, 25, 26, 27, 28, 29, 30, 11, 31, 32, 10])
 (s (r [
 m 33 9,
 ⟨some 34, none, .call (.const (.func (.func F.q4h) [] [])) [(.const (.val (.string ⟨#[99, 97, 114, 100]⟩))), (t 33)]⟩,
 y 32 8 34] [33, 34])
 .ret)))⟩
theorem H.q4a : Has P F.q4a C.q4a := ⟨Tryz.f72, Tryz.func72, by kernel_rfl, by kernel_rfl⟩
noncomputable def C.q07 : MFunc := ⟨12, 2, [.tmp 4],
 (s (r [
 b 4 false] [])
 (s (r [
 m 5 0,
 v 6 (.bin .geq T.int (t 5) (c 0)),
 m 7 6,
 w 8 7 (M 0),
 w 9 7 (M 1),
 w 10 7 (A 8 9),
 v 11 (k 7 10),
 m 4 11] [5, 6, 7, 8, 9, 10, 11])
 .ret))⟩
theorem H.q07 : Has P F.q07 C.q07 := ⟨Tryz.f74, Tryz.func74, by kernel_rfl, by kernel_rfl⟩
noncomputable def C.q1v : MFunc := ⟨12, 1, [.tmp 1],
 (s (r [
 b 1 false] [])
 (s (r [
 g 2 0 0,
 g 3 3 2,
 l 4 3,
 ⟨some 5, none, .call (.const (.func (.func F.q3t) [] [])) [(t 4), (.const (.func (.func F.q0z) [] []))]⟩,
 m 6 5,
 w 7 6 (G 0 0),
 w 8 6 (G 3 7),
 w 9 6 (D 8),
 ⟨some 10, some (6, true), .call (.const (.func (.func F.q37) [] [])) [(t 9), (.const (.func (.func F.q1f) [] []))]⟩,
 v 11 (k 6 10),
 m 1 11] [2, 3, 4, 5, 6, 7, 8, 9, 10, 11])
 .ret))⟩
theorem H.q1v : Has P F.q1v C.q1v := ⟨Tryz.f75, Tryz.func75, by kernel_rfl, by kernel_rfl⟩
noncomputable def C.q3t : MFunc := ⟨24, 2, [.tmp 4],
 (s (r [
 b 4 false] [])
 (s (s (r [
 i 5 1] [])
 (.block 0 (.loop (s (s (r [
 m 6 5,
 m 7 0,
 v 8 (n 7),
 v 9 (A 6 8)] [6, 7, 8])
 (d 9
 .skip
 (.exit 0)))
 (s (.block 1 (s (.draw true [
 e (m 12 1),
 e (m 13 0),
 e (m 14 5),
 e (v 15 (.bin .sub T.int (t 14) (c 1))),
 e (v 16 (I 1 13 15)),
 e (l 17 16),
 e (m 18 0),
 e (m 19 5),
 e (v 20 (I 1 18 19)),
 e (l 21 20),
 h (⟨some 22, none, .call (t 12) [(t 17), (t 21)]⟩),
 a (v 23 (.bin .geq T.int (t 22) (c 0)))] [12, 13, 14, 15, 16, 17, 18, 19, 20, 21, 22])
 (d 23
 (s (r [
 b 4 false] [])
 .ret)
 .skip)))
 (r [
 m 10 5,
 v 11 (p 10 1),
 m 5 11] [10, 11]))))))
 (s (r [
 b 4 true] [])
 .ret)))⟩
theorem H.q3t : Has P F.q3t C.q3t := ⟨Tryz.f76, Tryz.func76, by kernel_rfl, by kernel_rfl⟩
noncomputable def C.q0z : MFunc := ⟨20, 2, [.tmp 4],
 (s (r [
 i 4 0] [])
 (s (r [
 m 7 0,
 f 8 F.q38 [(t 7)],
 m 5 8] [7, 8])
 (s (r [
 m 9 1,
 f 10 F.q38 [(t 9)],
 m 6 10] [9, 10])
 (s (s (r [
 m 11 5] [])
 (d 11
 (s (s (r [
 m 12 6] [])
 (d 12
 (s (r [
 i 4 0] [])
 .ret)
 .skip))
 (s (r [
 v 4 (.mv (.const (.int (-1))))] [])
 .ret))
 .skip))
 (s (s (r [
 m 13 6] [])
 (d 13
 (s (r [
 i 4 1] [])
 .ret)
 .skip))
 (s (s (r [
 m 14 0,
 m 15 1,
 v 16 (A 14 15)] [14, 15])
 (d 16
 (s (r [
 v 4 (.mv (.const (.int (-1))))] [])
 .ret)
 .skip))
 (s (s (r [
 m 17 0,
 m 18 1,
 v 19 (.bin .gtr T.int (t 17) (t 18))] [17, 18])
 (d 19
 (s (r [
 i 4 1] [])
 .ret)
 .skip))
 (s (r [
 i 4 0] [])
 .ret))))))))⟩
theorem H.q0z : Has P F.q0z C.q0z := ⟨Tryz.f77, Tryz.func77, by kernel_rfl, by kernel_rfl⟩
noncomputable def C.q37 : MFunc := ⟨9, 2, [.tmp 4],
 (s (r [
 ⟨some 3, none, .box T.funcintbool (t 1)⟩,
 b 4 false] [])
 (s (r [
 m 5 0,
 v 6 (.mkFunc (.func F.q20) [] [(t 3)]),
 f 7 F.q0n [(t 5), (t 6)],
 v 8 (N 7),
 m 4 8] [5, 6, 7, 8])
 .ret))⟩
theorem H.q37 : Has P F.q37 C.q37 := ⟨Tryz.f78, Tryz.func78, by kernel_rfl, by kernel_rfl⟩
noncomputable def C.q1f : MFunc := ⟨5, 1, [.tmp 2],
 (s (r [
 b 2 false] [])
 (s (r [
 m 3 0,
 f 4 F.q07 [(t 3), (c 256)],
 m 2 4] [3, 4])
 .ret))⟩
theorem H.q1f : Has P F.q1f C.q1f := ⟨Tryz.f79, Tryz.func79, by kernel_rfl, by kernel_rfl⟩
noncomputable def C.q1w : MFunc := ⟨14, 1, [.tmp 1],
 (s (r [
 b 1 false] [])
 (s (r [
 g 2 0 0,
 g 3 7 2,
 l 4 3,
 ⟨some 5, none, .call (.const (.func (.func F.q19) [] [])) [(t 4), (.const (.func (.func F.q2k) [] []))]⟩,
 m 6 5,
 w 7 6 (G 0 0),
 w 8 6 (G 7 7),
 w 9 6 (D 8),
 w 10 6 (E 10 0),
 w 11 6 (.mkFunc (.func F.q1r) [(t 10)] []),
 ⟨some 12, some (6, true), .call (.const (.func (.func F.q2l) [] [])) [(t 9), (t 11)]⟩,
 v 13 (k 6 12),
 m 1 13] [2, 3, 4, 5, 6, 7, 8, 9, 10, 11, 12, 13])
 .ret))⟩
theorem H.q1w : Has P F.q1w C.q1w := ⟨Tryz.f80, Tryz.func80, by kernel_rfl, by kernel_rfl⟩
noncomputable def C.q19 : MFunc := ⟨24, 2, [.tmp 4],
 (s (r [
 b 4 false] [])
 (s (s (r [
 i 5 1] [])
 (.block 0 (.loop (s (s (r [
 m 6 5,
 m 7 0,
 v 8 (n 7),
 v 9 (A 6 8)] [6, 7, 8])
 (d 9
 .skip
 (.exit 0)))
 (s (.block 1 (s (.draw true [
 e (m 12 1),
 e (m 13 0),
 e (m 14 5),
 e (v 15 (.bin .sub T.int (t 14) (c 1))),
 e (v 16 (I 36 13 15)),
 e (L 17 36 16),
 e (m 18 0),
 e (m 19 5),
 e (v 20 (I 36 18 19)),
 e (L 21 36 20),
 h (⟨some 22, none, .call (t 12) [(t 17), (t 21)]⟩),
 a (v 23 (.bin .geq T.int (t 22) (c 0)))] [12, 13, 14, 15, 16, 17, 18, 19, 20, 21, 22])
 (d 23
 (s (r [
 b 4 false] [])
 .ret)
 .skip)))
 (r [
 m 10 5,
 v 11 (p 10 1),
 m 5 11] [10, 11]))))))
 (s (r [
 b 4 true] [])
 .ret)))⟩
theorem H.q19 : Has P F.q19 C.q19 := ⟨Tryz.f81, Tryz.func81, by kernel_rfl, by kernel_rfl⟩
noncomputable def C.q2k : MFunc := ⟨10, 2, [.tmp 4],
 (s (r [
 ⟨some 2, none, .box T.apiSealed (t 0)⟩,
 ⟨some 3, none, .box T.apiSealed (t 1)⟩,
 i 4 0] [])
 (s (r [
 g 5 2 2,
 l 6 5,
 g 7 2 3,
 l 8 7,
 f 9 F.q0z [(t 6), (t 8)],
 m 4 9] [5, 6, 7, 8, 9])
 .ret))⟩
theorem H.q2k : Has P F.q2k C.q2k := ⟨Tryz.f82, Tryz.func82, by kernel_rfl, by kernel_rfl⟩
noncomputable def C.q2l : MFunc := ⟨9, 2, [.tmp 4],
 (s (r [
 ⟨some 3, none, .box T.q49 (t 1)⟩,
 b 4 false] [])
 (s (r [
 m 5 0,
 v 6 (.mkFunc (.func F.q1k) [] [(t 3)]),
 f 7 F.q0p [(t 5), (t 6)],
 v 8 (N 7),
 m 4 8] [5, 6, 7, 8])
 .ret))⟩
theorem H.q2l : Has P F.q2l C.q2l := ⟨Tryz.f83, Tryz.func83, by kernel_rfl, by kernel_rfl⟩
noncomputable def C.q1r : MFunc := ⟨39, 2, [.tmp 4],
 (s (r [
 ⟨some 2, none, .box T.q47 (t 0)⟩,
 ⟨some 3, none, .box T.apiSealed (t 1)⟩,
 b 4 false] [])
 (s (.region (
 L 5 36 3 ::
 f 6 F.q4i [(t 5)] ::
 v 7 (.bin .eql T.apiErrno (t 6) (c 0)) ::
 m 8 7 ::
 w 9 8 (G 0 3) ::
 w 10 8 (D 9) ::
 w 11 8 (G 0 2) ::
 w 12 8 (G 0 11) ::
 w 13 8 (D 12) ::
 w 14 8 (B 10 13) ::
 v 15 (k 8 14) ::
 m 16 15 ::
 w 17 16 (G 1 3) ::
 w 18 16 (D 17) ::
 w 19 16 (G 0 2) ::
 w 20 16 (G 1 19) ::
 w 21 16 (D 20) ::
 w 22 16 (B 18 21) ::
 v 23 (k 16 22) ::
 m 24 23 ::
 w 25 24 (E 10 2) ::
 w 26 24 (G 2 3) ::
 w 27 24 (D 26) ::
 ⟨some 28, some (24, true), .call (.const (.func (.func F.q1u) [] [])) [(t 25), (t 27)]⟩ ::
 v 29 (k 24 28) ::
 m 30 29 ::
 w 31 30 (G 3 3) ::
 w 32 30 (D 31) ::
 w 33 30 (n 32) ::
 w 34 30 (G 0 2) ::
 w 35 30 (G 2 34) ::
 w 36 30 (D 35) ::
 w 37 30 (B 33 36) ::
 v 38 (k 30 37) ::
 m 4 38 :: []) (5 :: 6 :: 7 :: 8 :: 9 :: 10 :: 11 :: 12 :: 13 :: 14 :: 15 :: 16 :: 17 :: 18 :: 19 :: 20 :: 21 :: 22 :: 23 :: 24 :: 25 :: 26 :: 27 :: 28 :: 29 :: 30 :: 31 :: 32 :: 33 :: 34 :: 35 :: 36 :: 37 :: 38 :: []))
 .ret))⟩
theorem H.q1r : Has P F.q1r C.q1r := ⟨Tryz.f84, Tryz.func84, by kernel_rfl, by kernel_rfl⟩
noncomputable def C.q1x : MFunc := ⟨14, 1, [.tmp 1],
 (s (r [
 b 1 false] [])
 (s (r [
 g 2 0 0,
 g 3 8 2,
 l 4 3,
 ⟨some 5, none, .call (.const (.func (.func F.q13) [] [])) [(t 4), (.const (.func (.func F.q2b) [] []))]⟩,
 m 6 5,
 w 7 6 (G 0 0),
 w 8 6 (G 8 7),
 w 9 6 (D 8),
 w 10 6 (E 10 0),
 w 11 6 (.mkFunc (.func F.q1i) [(t 10)] []),
 ⟨some 12, some (6, true), .call (.const (.func (.func F.q2a) [] [])) [(t 9), (t 11)]⟩,
 v 13 (k 6 12),
 m 1 13] [2, 3, 4, 5, 6, 7, 8, 9, 10, 11, 12, 13])
 .ret))⟩
theorem H.q1x : Has P F.q1x C.q1x := ⟨Tryz.f85, Tryz.func85, by kernel_rfl, by kernel_rfl⟩
noncomputable def C.q13 : MFunc := ⟨24, 2, [.tmp 4],
 (s (r [
 b 4 false] [])
 (s (s (r [
 i 5 1] [])
 (.block 0 (.loop (s (s (r [
 m 6 5,
 m 7 0,
 v 8 (n 7),
 v 9 (A 6 8)] [6, 7, 8])
 (d 9
 .skip
 (.exit 0)))
 (s (.block 1 (s (.draw true [
 e (m 12 1),
 e (m 13 0),
 e (m 14 5),
 e (v 15 (.bin .sub T.int (t 14) (c 1))),
 e (v 16 (I 4 13 15)),
 e (L 17 4 16),
 e (m 18 0),
 e (m 19 5),
 e (v 20 (I 4 18 19)),
 e (L 21 4 20),
 h (⟨some 22, none, .call (t 12) [(t 17), (t 21)]⟩),
 a (v 23 (.bin .geq T.int (t 22) (c 0)))] [12, 13, 14, 15, 16, 17, 18, 19, 20, 21, 22])
 (d 23
 (s (r [
 b 4 false] [])
 .ret)
 .skip)))
 (r [
 m 10 5,
 v 11 (p 10 1),
 m 5 11] [10, 11]))))))
 (s (r [
 b 4 true] [])
 .ret)))⟩
theorem H.q13 : Has P F.q13 C.q13 := ⟨Tryz.f86, Tryz.func86, by kernel_rfl, by kernel_rfl⟩
noncomputable def C.q2b : MFunc := ⟨22, 2, [.tmp 4],
 (s (r [
 ⟨some 2, none, .box T.apiKeyShare (t 0)⟩,
 ⟨some 3, none, .box T.apiKeyShare (t 1)⟩,
 i 4 0] [])
 (s (.draw true [
 e (g 5 0 2),
 e (l 6 5),
 e (g 7 0 3),
 e (l 8 7),
 a (g 10 1 2),
 a (l 11 10),
 a (g 12 1 3),
 a (l 13 12),
 a (g 15 2 2),
 a (l 16 15),
 a (g 17 2 3),
 a (l 18 17),
 h (f 9 F.q0z [(t 6), (t 8)]),
 h (f 14 F.q0z [(t 11), (t 13)]),
 h (f 19 F.q0z [(t 16), (t 18)]),
 a (v 20 (.buildSlice T.int 3 [(.int 0), (.int 0), (.int 0)] [(0, 1, (t 9)), (1, 1, (t 14)), (2, 1, (t 19))])),
 h (f 21 F.q4y [(t 20)]),
 a (m 4 21)] [5, 6, 7, 8, 9, 10, 11, 12, 13, 14, 15, 16, 17, 18, 19, 20, 21])
 .ret))⟩
theorem H.q2b : Has P F.q2b C.q2b := ⟨Tryz.f87, Tryz.func87, by kernel_rfl, by kernel_rfl⟩
noncomputable def C.q2a : MFunc := ⟨9, 2, [.tmp 4],
 (s (r [
 ⟨some 3, none, .box T.q5a (t 1)⟩,
 b 4 false] [])
 (s (r [
 m 5 0,
 v 6 (.mkFunc (.func F.q1d) [] [(t 3)]),
 f 7 F.q0i [(t 5), (t 6)],
 v 8 (N 7),
 m 4 8] [5, 6, 7, 8])
 .ret))⟩
theorem H.q2a : Has P F.q2a C.q2a := ⟨Tryz.f88, Tryz.func88, by kernel_rfl, by kernel_rfl⟩
noncomputable def C.q1i : MFunc := ⟨35, 2, [.tmp 4],
 (s (r [
 ⟨some 2, none, .box T.q47 (t 0)⟩,
 ⟨some 3, none, .box T.apiKeyShare (t 1)⟩,
 b 4 false] [])
 (s (.region (
 L 5 10 2 ::
 g 6 0 3 ::
 l 7 6 ::
 f 8 F.q1u [(t 5), (t 7)] ::
 m 9 8 ::
 w 10 9 (E 10 2) ::
 w 11 9 (G 2 3) ::
 w 12 9 (D 11) ::
 ⟨some 13, some (9, true), .call (.const (.func (.func F.q1u) [] [])) [(t 10), (t 12)]⟩ ::
 v 14 (k 9 13) ::
 m 15 14 ::
 w 16 15 (G 0 3) ::
 w 17 15 (D 16) ::
 w 18 15 (G 2 3) ::
 w 19 15 (D 18) ::
 w 20 15 (.bin .neq T.int (t 17) (t 19)) ::
 v 21 (k 15 20) ::
 m 22 21 ::
 w 23 22 (G 1 3) ::
 w 24 22 (D 23) ::
 w 25 22 (G 0 2) ::
 w 26 22 (G 2 25) ::
 w 27 22 (D 26) ::
 ⟨some 28, some (22, true), .call (.const (.func (.func F.q07) [] [])) [(t 24), (t 27)]⟩ ::
 v 29 (k 22 28) ::
 m 30 29 ::
 w 31 30 (G 3 3) ::
 w 32 30 (D 31) ::
 ⟨some 33, some (30, true), .call (.const (.func (.func F.q07) [] [])) [(t 32), (c 1073741789)]⟩ ::
 v 34 (k 30 33) ::
 m 4 34 :: []) [5, 6, 7, 8, 9, 10, 11, 12, 13, 14, 15, 16, 17, 18, 19, 20, 21, 22, 23, 24, 25, 26, 27, 28, 29, 30, 31, 32, 33, 34])
 .ret))⟩
theorem H.q1i : Has P F.q1i C.q1i := ⟨Tryz.f89, Tryz.func89, by kernel_rfl, by kernel_rfl⟩
noncomputable def C.q1y : MFunc := ⟨14, 1, [.tmp 1],
 (s (r [
 b 1 false] [])
 (s (r [
 g 2 0 0,
 g 3 9 2,
 l 4 3,
 ⟨some 5, none, .call (.const (.func (.func F.q2d) [] [])) [(t 4), (.const (.func (.func F.q2c) [] []))]⟩,
 m 6 5,
 w 7 6 (G 0 0),
 w 8 6 (G 9 7),
 w 9 6 (D 8),
 w 10 6 (E 10 0),
 w 11 6 (.mkFunc (.func F.q1s) [(t 10)] []),
 ⟨some 12, some (6, true), .call (.const (.func (.func F.q2x) [] [])) [(t 9), (t 11)]⟩,
 v 13 (k 6 12),
 m 1 13] [2, 3, 4, 5, 6, 7, 8, 9, 10, 11, 12, 13])
 .ret))⟩
theorem H.q1y : Has P F.q1y C.q1y := ⟨Tryz.f90, Tryz.func90, by kernel_rfl, by kernel_rfl⟩
noncomputable def C.q2d : MFunc := ⟨24, 2, [.tmp 4],
 (s (r [
 b 4 false] [])
 (s (s (r [
 i 5 1] [])
 (.block 0 (.loop (s (s (r [
 m 6 5,
 m 7 0,
 v 8 (n 7),
 v 9 (A 6 8)] [6, 7, 8])
 (d 9
 .skip
 (.exit 0)))
 (s (.block 1 (s (.draw true [
 e (m 12 1),
 e (m 13 0),
 e (m 14 5),
 e (v 15 (.bin .sub T.int (t 14) (c 1))),
 e (v 16 (I 34 13 15)),
 e (L 17 34 16),
 e (m 18 0),
 e (m 19 5),
 e (v 20 (I 34 18 19)),
 e (L 21 34 20),
 h (⟨some 22, none, .call (t 12) [(t 17), (t 21)]⟩),
 a (v 23 (.bin .geq T.int (t 22) (c 0)))] [12, 13, 14, 15, 16, 17, 18, 19, 20, 21, 22])
 (d 23
 (s (r [
 b 4 false] [])
 .ret)
 .skip)))
 (r [
 m 10 5,
 v 11 (p 10 1),
 m 5 11] [10, 11]))))))
 (s (r [
 b 4 true] [])
 .ret)))⟩
theorem H.q2d : Has P F.q2d C.q2d := ⟨Tryz.f91, Tryz.func91, by kernel_rfl, by kernel_rfl⟩
noncomputable def C.q2c : MFunc := ⟨10, 2, [.tmp 4],
 (s (r [
 ⟨some 2, none, .box T.apiShown (t 0)⟩,
 ⟨some 3, none, .box T.apiShown (t 1)⟩,
 i 4 0] [])
 (s (r [
 g 5 0 2,
 l 6 5,
 g 7 0 3,
 l 8 7,
 f 9 F.q0z [(t 6), (t 8)],
 m 4 9] [5, 6, 7, 8, 9])
 .ret))⟩
theorem H.q2c : Has P F.q2c C.q2c := ⟨Tryz.f92, Tryz.func92, by kernel_rfl, by kernel_rfl⟩
noncomputable def C.q2x : MFunc := ⟨9, 2, [.tmp 4],
 (s (r [
 ⟨some 3, none, .box T.q5b (t 1)⟩,
 b 4 false] [])
 (s (r [
 m 5 0,
 v 6 (.mkFunc (.func F.q10) [] [(t 3)]),
 f 7 F.q0r [(t 5), (t 6)],
 v 8 (N 7),
 m 4 8] [5, 6, 7, 8])
 .ret))⟩
theorem H.q2x : Has P F.q2x C.q2x := ⟨Tryz.f93, Tryz.func93, by kernel_rfl, by kernel_rfl⟩
noncomputable def C.q1s : MFunc := ⟨33, 2, [.tmp 4],
 (s (r [
 ⟨some 2, none, .box T.q47 (t 0)⟩,
 ⟨some 3, none, .box T.apiShown (t 1)⟩,
 b 4 false] [])
 (s (r [
 L 10 10 2,
 g 11 0 3,
 l 12 11,
 f 13 F.q2f [(t 10), (t 12)],
 m 9 13,
 x 14 0 9,
 x 15 1 9,
 ⟨some 5, none, .alloc T.apiSealed (.int 0 :: .int 0 :: .int 0 :: .nil :: o ([]))⟩,
 y 36 5 14,
 m 6 15] [10, 11, 12, 13, 9, 14, 15])
 (s (s (r [
 m 16 6,
 v 17 (N 16)] [16])
 (d 17
 (s (r [
 b 4 false] [])
 .ret)
 .skip))
 (s (r [
 L 19 36 5,
 g 20 1 3,
 l 21 20,
 g 22 2 3,
 L 23 32 22,
 f 24 F.q4s [(t 19), (t 21), (t 23)],
 m 18 24,
 x 25 0 18,
 x 26 1 18,
 x 27 2 18,
 m 7 25,
 m 6 26,
 m 8 27] [19, 20, 21, 22, 23, 24, 18, 25, 26, 27, 7])
 (s (r [
 m 28 6,
 m 29 28,
 w 30 29 (M 8),
 w 31 29 (.bin .eql T.apiErrno (t 30) (c 0)),
 v 32 (k 29 31),
 m 4 32] [28, 29, 30, 31, 32])
 .ret)))))⟩
theorem H.q1s : Has P F.q1s C.q1s := ⟨Tryz.f94, Tryz.func94, by kernel_rfl, by kernel_rfl⟩
noncomputable def C.q1z : MFunc := ⟨16, 1, [.tmp 1],
 (s (r [
 b 1 false] [])
 (s (r [
 L 2 10 0,
 f 3 F.q0x [(t 2)],
 m 4 3,
 z 5 4 (G 0 0),
 z 6 4 (G 8 5),
 z 7 4 (D 6),
 z 8 4 (n 7),
 z 9 4 (G 0 0),
 z 10 4 (G 9 9),
 z 11 4 (D 10),
 z 12 4 (n 11),
 z 13 4 (.bin .add T.int (t 8) (t 12)),
 z 14 4 (.bin .eql T.int (t 13) (c 0)),
 v 15 (j 4 14),
 m 1 15] [2, 3, 4, 5, 6, 7, 8, 9, 10, 11, 12, 13, 14, 15])
 .ret))⟩
theorem H.q1z : Has P F.q1z C.q1z := ⟨Tryz.f95, Tryz.func95, by kernel_rfl, by kernel_rfl⟩
noncomputable def C.q1h : MFunc := ⟨34, 4, [.tmp 8],
 (s (r [
 ⟨some 5, none, .box T.apiSealed (t 1)⟩,
 v 8 (.mv (.const .nil))] [])
 (s (r [
 m 12 0,
 L 13 36 5,
 m 14 2,
 f 15 F.q0d [(t 12), (t 13), (t 14)],
 m 11 15,
 x 16 0 11,
 x 17 1 11,
 m 9 16,
 m 10 17] [12, 13, 14, 15, 11, 16, 17])
 (s (s (r [
 m 18 10] [])
 (d 18
 (s (.draw false [
 e (m 19 3),
 e (m 20 0),
 e (m 21 9),
 e (v 22 (I 36 20 21)),
 e (L 23 36 22),
 e (L 24 36 5),
 h (⟨some 25, none, .call (t 19) [(t 23), (t 24)]⟩),
 h (f 26 F.q0y [(t 25), (c 141)])] [19, 20, 21, 22, 23, 24, 25, 26])
 (s (r [
 m 27 0,
 m 8 27] [27])
 .ret))
 .skip))
 (s (.draw true [
 e (m 28 0),
 a (m 30 9),
 a (L 31 36 5),
 a (v 32 (.buildSlice T.apiSealed 1 (.int 0 :: .int 0 :: .int 0 :: .nil :: o ([])) [(0, 36, (t 31))])),
 h (f 29 F.q02 [(t 28)]),
 h (f 33 F.q0j [(t 29), (t 30), (t 32)]),
 a (m 8 33)] [28, 29, 30, 31, 32, 33])
 .ret))))⟩
theorem H.q1h : Has P F.q1h C.q1h := ⟨Tryz.f96, Tryz.func96, by kernel_rfl, by kernel_rfl⟩
noncomputable def C.q2z : MFunc := ⟨31, 2, [.tmp 4],
 (s (r [
 ⟨some 2, none, .box T.apiSealed (t 0)⟩,
 ⟨some 3, none, .box T.apiSealed (t 1)⟩,
 b 4 false] [])
 (s (r [
 g 5 0 2,
 l 6 5,
 g 7 0 3,
 l 8 7,
 v 9 (B 6 8),
 m 10 9,
 w 11 10 (G 1 2),
 w 12 10 (D 11),
 w 13 10 (G 1 3),
 w 14 10 (D 13),
 w 15 10 (B 12 14),
 v 16 (k 10 15),
 m 17 16,
 w 18 17 (G 3 2),
 w 19 17 (D 18),
 w 20 17 (G 3 3),
 w 21 17 (D 20),
 ⟨some 22, some (17, true), .call (.const (.func (.func F.q1j) [] [])) [(t 19), (t 21)]⟩,
 v 23 (k 17 22),
 m 24 23,
 w 25 24 (G 4 2),
 w 26 24 (E 32 25),
 w 27 24 (G 4 3),
 w 28 24 (E 32 27),
 w 29 24 (.eqAgg false (.int :: .int :: .int :: .int :: .int :: .int :: .int :: .int :: .int :: .int :: .int :: .int :: .int :: .int :: .int :: .int :: .int :: .int :: .int :: .int :: .int :: .int :: .int :: .int :: .int :: .int :: .int :: .int :: .int :: .int :: .int :: .int :: []) (t 26) (t 28)),
 v 30 (k 24 29),
 m 4 30] [5, 6, 7, 8, 9, 10, 11, 12, 13, 14, 15, 16, 17, 18, 19, 20, 21, 22, 23, 24, 25, 26, 27, 28, 29, 30])
 .ret))⟩
theorem H.q2z : Has P F.q2z C.q2z := ⟨Tryz.f97, Tryz.func97, by kernel_rfl, by kernel_rfl⟩
noncomputable def C.q1a : MFunc := ⟨34, 4, [.tmp 8],
 (s (r [
 ⟨some 5, none, .box T.apiKeyShare (t 1)⟩,
 v 8 (.mv (.const .nil))] [])
 (s (r [
 m 12 0,
 L 13 4 5,
 m 14 2,
 f 15 F.q0a [(t 12), (t 13), (t 14)],
 m 11 15,
 x 16 0 11,
 x 17 1 11,
 m 9 16,
 m 10 17] [12, 13, 14, 15, 11, 16, 17])
 (s (s (r [
 m 18 10] [])
 (d 18
 (s (.draw false [
 e (m 19 3),
 e (m 20 0),
 e (m 21 9),
 e (v 22 (I 4 20 21)),
 e (L 23 4 22),
 e (L 24 4 5),
 h (⟨some 25, none, .call (t 19) [(t 23), (t 24)]⟩),
 h (f 26 F.q0y [(t 25), (c 141)])] [19, 20, 21, 22, 23, 24, 25, 26])
 (s (r [
 m 27 0,
 m 8 27] [27])
 .ret))
 .skip))
 (s (.draw true [
 e (m 28 0),
 a (m 30 9),
 a (L 31 4 5),
 a (v 32 (.buildSlice T.apiKeyShare 1 q1 [(0, 4, (t 31))])),
 h (f 29 F.q0u [(t 28)]),
 h (f 33 F.q0f [(t 29), (t 30), (t 32)]),
 a (m 8 33)] [28, 29, 30, 31, 32, 33])
 .ret))))⟩
theorem H.q1a : Has P F.q1a C.q1a := ⟨Tryz.f98, Tryz.func98, by kernel_rfl, by kernel_rfl⟩
noncomputable def C.q2p : MFunc := ⟨8, 2, [.tmp 4],
 (s (r [
 ⟨some 2, none, .box T.apiKeyShare (t 0)⟩,
 ⟨some 3, none, .box T.apiKeyShare (t 1)⟩,
 b 4 false] [])
 (s (r [
 L 5 4 2,
 L 6 4 3,
 v 7 (.eqAgg false [.int, .int, .int, .int] (t 5) (t 6)),
 m 4 7] [5, 6, 7])
 .ret))⟩
theorem H.q2p : Has P F.q2p C.q2p := ⟨Tryz.f99, Tryz.func99, by kernel_rfl, by kernel_rfl⟩
noncomputable def C.q1t : MFunc := ⟨34, 4, [.tmp 8],
 (s (r [
 ⟨some 5, none, .box T.apiShown (t 1)⟩,
 v 8 (.mv (.const .nil))] [])
 (s (r [
 m 12 0,
 L 13 34 5,
 m 14 2,
 f 15 F.q0e [(t 12), (t 13), (t 14)],
 m 11 15,
 x 16 0 11,
 x 17 1 11,
 m 9 16,
 m 10 17] [12, 13, 14, 15, 11, 16, 17])
 (s (s (r [
 m 18 10] [])
 (d 18
 (s (.draw false [
 e (m 19 3),
 e (m 20 0),
 e (m 21 9),
 e (v 22 (I 34 20 21)),
 e (L 23 34 22),
 e (L 24 34 5),
 h (⟨some 25, none, .call (t 19) [(t 23), (t 24)]⟩),
 h (f 26 F.q0y [(t 25), (c 141)])] [19, 20, 21, 22, 23, 24, 25, 26])
 (s (r [
 m 27 0,
 m 8 27] [27])
 .ret))
 .skip))
 (s (.draw true [
 e (m 28 0),
 a (m 30 9),
 a (L 31 34 5),
 a (v 32 (.buildSlice T.apiShown 1 (.int 0 :: .nil :: o ([])) [(0, 34, (t 31))])),
 h (f 29 F.q08 [(t 28)]),
 h (f 33 F.q0l [(t 29), (t 30), (t 32)]),
 a (m 8 33)] [28, 29, 30, 31, 32, 33])
 .ret))))⟩
theorem H.q1t : Has P F.q1t C.q1t := ⟨Tryz.f100, Tryz.func100, by kernel_rfl, by kernel_rfl⟩
noncomputable def C.q2q : MFunc := ⟨17, 2, [.tmp 4],
 (s (r [
 ⟨some 2, none, .box T.apiShown (t 0)⟩,
 ⟨some 3, none, .box T.apiShown (t 1)⟩,
 b 4 false] [])
 (s (r [
 g 5 1 2,
 l 6 5,
 g 7 1 3,
 l 8 7,
 f 9 F.q1j [(t 6), (t 8)],
 m 10 9,
 w 11 10 (G 2 2),
 w 12 10 (E 32 11),
 w 13 10 (G 2 3),
 w 14 10 (E 32 13),
 w 15 10 (.eqAgg false (.int :: .int :: .int :: .int :: .int :: .int :: .int :: .int :: .int :: .int :: .int :: .int :: .int :: .int :: .int :: .int :: .int :: .int :: .int :: .int :: .int :: .int :: .int :: .int :: .int :: .int :: .int :: .int :: .int :: .int :: .int :: .int :: []) (t 12) (t 14)),
 v 16 (k 10 15),
 m 4 16] [5, 6, 7, 8, 9, 10, 11, 12, 13, 14, 15, 16])
 .ret))⟩
theorem H.q2q : Has P F.q2q C.q2q := ⟨Tryz.f101, Tryz.func101, by kernel_rfl, by kernel_rfl⟩
noncomputable def C.q2f : MFunc := ⟨24, 2, [.cell 4 36 true, .tmp 5],
 (s (r [
 ⟨some 2, none, .box T.q47 (t 0)⟩,
 ⟨some 4, none, .alloc T.apiSealed (.int 0 :: .int 0 :: .int 0 :: .nil :: o ([]))⟩,
 b 5 false] [])
 (s (r [
 g 8 0 2,
 g 9 7 8,
 l 10 9,
 m 11 1,
 ⟨some 12, none, .call (.const (.func (.func F.q0g) [] [])) [(t 10), (t 11), (.const (.func (.func F.q3x) [] []))]⟩,
 m 7 12,
 x 13 0 7,
 x 14 1 7,
 m 6 13,
 m 5 14] [8, 9, 10, 11, 12, 7, 13, 14])
 (s (s (r [
 m 15 5,
 v 16 (N 15)] [15])
 (d 16
 (s (r [
 L 17 36 4,
 y 36 4 17,
 b 5 false] [17])
 .ret)
 .skip))
 (s (r [
 g 18 0 2,
 g 19 7 18,
 l 20 19,
 m 21 6,
 v 22 (I 36 20 21),
 L 23 36 22,
 y 36 4 23,
 b 5 true] [18, 19, 20, 21, 22, 23])
 .ret))))⟩
theorem H.q2f : Has P F.q2f C.q2f := ⟨Tryz.f102, Tryz.func102, by kernel_rfl, by kernel_rfl⟩
noncomputable def C.q1c : MFunc := ⟨44, 2, [.cell 4 2 true, .tmp 5],
 (s (r [
 ⟨some 2, none, .box T.q47 (t 0)⟩,
 ⟨some 3, none, .box T.apiSealed (t 1)⟩,
 ⟨some 4, none, .alloc T.apiOpened q3⟩,
 b 5 false] [])
 (s (r [
 g 11 0 2,
 g 12 9 11,
 l 13 12,
 g 14 2 3,
 l 15 14,
 ⟨some 16, none, .call (.const (.func (.func F.q0h) [] [])) [(t 13), (t 15), (.const (.func (.func F.q11) [] []))]⟩,
 m 10 16,
 x 17 0 10,
 x 18 1 10,
 m 6 17,
 m 5 18] [11, 12, 13, 14, 15, 16, 10, 17, 18])
 (s (s (r [
 m 19 5,
 v 20 (N 19)] [19])
 (d 20
 (s (r [
 L 21 2 4,
 y 2 4 21,
 b 5 false] [21])
 .ret)
 .skip))
 (s (.draw true [
 e (L 23 36 3),
 e (g 24 0 2),
 e (g 25 9 24),
 e (l 26 25),
 e (m 27 6),
 e (v 28 (I 34 26 27)),
 e (g 29 1 28),
 e (l 30 29),
 e (g 31 0 2),
 e (g 32 9 31),
 e (l 33 32),
 e (m 34 6),
 e (v 35 (I 34 33 34)),
 e (g 36 2 35),
 e (L 37 32 36),
 h (f 38 F.q4s [(t 23), (t 30), (t 37)]),
 a (m 22 38),
 a (x 39 0 22),
 a (x 40 1 22),
 a (x 41 2 22),
 a (m 7 39),
 a (m 8 40),
 a (m 9 41)] [23, 24, 25, 26, 27, 28, 29, 30, 31, 32, 33, 34, 35, 36, 37, 38, 22, 39, 40, 41, 8, 9])
 (s (r [
 m 42 7,
 v 43 (.build q3 [(0, 1, (c 1)), (1, 1, (t 42))]),
 y 2 4 43,
 b 5 true] [42, 43])
 .ret)))))⟩
theorem H.q1c : Has P F.q1c C.q1c := ⟨Tryz.f103, Tryz.func103, by kernel_rfl, by kernel_rfl⟩
noncomputable def C.q15 : MFunc := ⟨44, 2, [.cell 4 2 true, .tmp 5],
 (s (r [
 ⟨some 2, none, .box T.q47 (t 0)⟩,
 ⟨some 3, none, .box T.apiSealed (t 1)⟩,
 ⟨some 4, none, .alloc T.apiOpened q3⟩,
 b 5 false] [])
 (s (r [
 v 6 (.mv (.const .nil))] [])
 (s (s (r [
 g 12 0 2,
 g 13 2 12,
 l 14 13,
 i 15 0] [12, 13])
 (.block 0 (.loop (s (r [
 v 16 (A 15 14)] [])
 (s (d 16
 .skip
 (.exit 0))
 (s (.block 1 (s (r [
 m 17 15,
 m 7 17] [17])
 (s (r [
 L 19 10 2,
 g 20 2 3,
 l 21 20,
 m 22 7,
 f 23 F.q3g [(t 19), (t 21), (t 22)],
 m 18 23,
 x 24 0 18,
 x 25 1 18,
 m 8 24,
 m 9 25] [19, 20, 21, 22, 23, 18, 24, 25])
 (s (s (r [
 m 26 9,
 v 27 (N 26)] [26])
 (d 27
 (s (r [
 L 28 2 4,
 y 2 4 28,
 b 5 false] [28])
 .ret)
 .skip))
 (r [
 m 29 6,
 m 30 8,
 v 31 (.buildSlice T.int 1 [(.int 0)] [(0, 1, (t 30))]),
 ⟨some 32, none, .append T.int 8 1 (t 29) (t 31)⟩,
 m 6 32] [29, 30, 31, 32])))))
 (r [
 v 33 (p 15 1),
 m 15 33] [33])))))))
 (s (r [
 L 35 36 3,
 m 36 6,
 f 37 F.q4x [(t 35), (t 36)],
 m 34 37,
 x 38 0 34,
 x 39 1 34,
 m 10 38,
 m 11 39] [35, 36, 37, 34, 38, 39])
 (s (r [
 m 40 10,
 v 41 (.build q3 [(0, 1, (c 2)), (1, 1, (t 40))]),
 m 42 11,
 v 43 (.bin .eql T.apiErrno (t 42) (c 0)),
 y 2 4 41,
 m 5 43] [40, 41, 42, 43])
 .ret)))))⟩
theorem H.q15 : Has P F.q15 C.q15 := ⟨Tryz.f104, Tryz.func104, by kernel_rfl, by kernel_rfl⟩
noncomputable def C.q2g : MFunc := ⟨15, 2, [.cell 4 2 true, .tmp 5],
 (s (r [
 ⟨some 2, none, .box T.q47 (t 0)⟩,
 ⟨some 3, none, .box T.apiSealed (t 1)⟩,
 ⟨some 4, none, .alloc T.apiOpened q3⟩,
 b 5 false] [3])
 (s (.draw true [
 e (v 6 (.build q3 [(0, 1, (c 3))])),
 a (g 7 0 2),
 a (g 8 6 7),
 a (l 9 8),
 a (g 10 0 2),
 a (g 11 5 10),
 a (l 12 11),
 a (v 13 (p 12 1440)),
 a (v 14 (.bin .geq T.int (t 9) (t 13))),
 h (y 2 4 6),
 a (m 5 14)] [6, 7, 8, 9, 10, 11, 12, 13, 14])
 .ret))⟩
theorem H.q2g : Has P F.q2g C.q2g := ⟨Tryz.f105, Tryz.func105, by kernel_rfl, by kernel_rfl⟩
noncomputable def C.q2h : MFunc := ⟨40, 3, [.tmp 6, .tmp 7, .tmp 8],
 (s (r [
 ⟨some 3, none, .box T.apiSealed (t 0)⟩,
 ⟨some 5, none, .box T.apiDigest (t 2)⟩,
 v 6 (.mv (.const .nil)),
 b 7 false,
 i 8 0] [])
 (s (r [
 L 12 36 3,
 m 13 1,
 f 14 F.q2i [(t 12), (t 13)],
 m 11 14,
 x 15 0 11,
 x 16 1 11,
 m 9 15,
 m 10 16] [12, 13, 14, 11, 15, 16])
 (s (s (r [
 m 17 10,
 v 18 (.bin .neq T.apiErrno (t 17) (c 0))] [17])
 (d 18
 (s (r [
 m 19 10,
 v 6 (.mv (.const .nil)),
 b 7 false,
 m 8 19] [19])
 .ret)
 .skip))
 (s (s (.draw true [
 e (m 20 9),
 h (f 21 F.q2s [(t 20)]),
 a (v 22 (N 21)),
 a (m 23 22),
 a (z 24 23 (G 0 3)),
 a (z 25 23 (D 24)),
 a (z 26 23 (G 1 3)),
 a (z 27 23 (D 26)),
 a (z 28 23 (G 2 3)),
 a (z 29 23 (D 28)),
 a (z 30 23 (M 9)),
 a (z 31 23 (M 1)),
 a (z 32 23 (E 32 5)),
 a (z 35 23 (G 4 3)),
 a (z 36 23 (E 32 35)),
 h (⟨some 33, some (23, false), .call (.const (.func (.func F.q3n) [] [])) [(t 25), (t 27), (t 29), (t 30), (t 31), (t 32)]⟩),
 (.hard, ⟨some 34, some (23, false), .call (.const (.func (.func F.q21) [] [])) [(.const (.val (.string ⟨#[99, 97, 114, 100]⟩))), (t 33)]⟩),
 a (z 37 23 (.eqAgg true (.int :: .int :: .int :: .int :: .int :: .int :: .int :: .int :: .int :: .int :: .int :: .int :: .int :: .int :: .int :: .int :: .int :: .int :: .int :: .int :: .int :: .int :: .int :: .int :: .int :: .int :: .int :: .int :: .int :: .int :: .int :: .int :: []) (t 34) (t 36))),
 a (v 38 (j 23 37))] [20, 21, 22, 23, 24, 25, 26, 27, 28, 29, 30, 31, 32, 33, 34, 35, 36, 37])
 (d 38
 (s (r [
 v 6 (.mv (.const .nil)),
 b 7 false,
 i 8 0] [])
 .ret)
 .skip))
 (s (r [
 m 39 9,
 m 6 39,
 b 7 true,
 i 8 0] [39])
 .ret)))))⟩
theorem H.q2h : Has P F.q2h C.q2h := ⟨Tryz.f106, Tryz.func106, by kernel_rfl, by kernel_rfl⟩
noncomputable def C.q4e : MFunc := ⟨90, 3, [.tmp 6, .tmp 7],
 (s (r [
 ⟨some 3, none, .box T.apiSession (t 0)⟩,
 i 6 0,
 b 7 false] [])
 (s (r [
 v 16 (.buildSlice T.apiPoint 0 [] []),
 m 8 16] [16])
 (s (s (r [
 i 9 0] [])
 (.block 0 (.loop (s (s (r [
 m 17 9,
 g 18 8 3,
 l 19 18,
 v 20 (n 19),
 v 21 (A 17 20)] [17, 18, 19, 20])
 (d 21
 .skip
 (.exit 0)))
 (s (.block 1 (s (r [
 g 24 8 3,
 l 25 24,
 m 26 9,
 v 27 (I 4 25 26),
 L 28 4 27,
 ⟨some 10, none, .alloc T.apiKeyShare q1⟩,
 y 4 10 28] [24, 25, 26, 27, 28])
 (s (r [
 g 29 0 10,
 l 30 29,
 m 31 1,
 v 32 (B 30 31),
 m 33 32,
 w 34 33 (G 1 10),
 w 35 33 (D 34),
 w 36 33 (M 2),
 w 37 33 (B 35 36),
 v 38 (k 33 37)] [29, 30, 31, 32, 33, 34, 35, 36, 37])
 (d 38
 (r [
 m 39 8,
 g 40 2 10,
 l 41 40,
 v 42 (p 41 1),
 g 43 3 10,
 l 44 43,
 v 45 (.build q2 [(0, 1, (t 42)), (1, 1, (t 44))]),
 v 46 (.buildSlice T.apiPoint 1 q2 [(0, 2, (t 45))]),
 ⟨some 47, none, .append T.apiPoint 16 2 (t 39) (t 46)⟩,
 m 8 47] [39, 40, 41, 42, 43, 44, 45, 46, 47])
 .skip))))
 (r [
 m 22 9,
 v 23 (p 22 1),
 m 9 23] [22, 23]))))))
 (s (s (r [
 m 48 8,
 v 49 (n 48),
 g 50 4 3,
 l 51 50,
 v 52 (A 49 51)] [48, 49, 50, 51])
 (d 52
 (s (r [
 i 6 0,
 b 7 false] [])
 .ret)
 .skip))
 (s (s (r [
 g 53 4 3,
 l 54 53,
 m 11 54] [53, 54])
 (.block 2 (.loop (s (s (r [
 m 55 11,
 m 56 8,
 v 57 (n 56),
 v 58 (A 55 57)] [55, 56, 57])
 (d 58
 .skip
 (.exit 2)))
 (s (.block 3 (s (.draw true [
 e (m 62 8),
 e (g 63 4 3),
 e (l 64 63),
 e (v 65 (.slice 2 (t 62) none (some (t 64)) none)),
 e (m 66 8),
 e (m 67 11),
 e (v 68 (I 2 66 67)),
 e (g 69 0 68),
 e (l 70 69),
 h (f 71 F.q3u [(t 65), (t 70)]),
 a (m 61 71),
 a (x 72 0 61),
 a (x 73 1 61),
 a (m 12 72),
 a (m 13 73)] [62, 63, 64, 65, 66, 67, 68, 69, 70, 71, 61, 72, 73, 13])
 (s (r [
 m 74 12,
 m 75 8,
 m 76 11,
 v 77 (I 2 75 76),
 g 78 1 77,
 l 79 78,
 v 80 (.bin .neq T.int (t 74) (t 79))] [74, 75, 76, 77, 78, 79])
 (d 80
 (s (r [
 i 6 0,
 b 7 false] [])
 .ret)
 .skip))))
 (r [
 m 59 11,
 v 60 (p 59 1),
 m 11 60] [59, 60]))))))
 (s (r [
 m 82 8,
 g 83 4 3,
 l 84 83,
 v 85 (.slice 2 (t 82) none (some (t 84)) none),
 f 86 F.q3u [(t 85), (c 0)],
 m 81 86,
 x 87 0 81,
 x 88 1 81,
 m 14 87,
 m 15 88] [82, 83, 84, 85, 86, 81, 87, 88, 15])
 (s (r [
 m 89 14,
 m 6 89,
 b 7 true] [89])
 .ret)))))))⟩
theorem H.q4e : Has P F.q4e C.q4e := ⟨Tryz.f107, Tryz.func107, by kernel_rfl, by kernel_rfl⟩
noncomputable def C.q3a : MFunc := ⟨22, 2, [.tmp 4, .tmp 5],
 (s (r [
 ⟨some 2, none, .box T.apiSealed (t 0)⟩,
 v 4 (.mv (.const .nil)),
 i 5 0] [])
 (s (r [
 L 9 36 2,
 m 10 1,
 f 11 F.q2i [(t 9), (t 10)],
 m 8 11,
 x 12 0 8,
 x 13 1 8,
 m 6 12,
 m 7 13] [9, 10, 11, 8, 12, 13])
 (s (s (r [
 m 14 7,
 v 15 (.bin .neq T.apiErrno (t 14) (c 0)),
 m 16 15,
 z 17 16 (M 6),
 ⟨some 18, some (16, false), .call (.const (.func (.func F.q2s) [] [])) [(t 17)]⟩,
 z 19 16 (N 18),
 v 20 (j 16 19)] [14, 15, 16, 17, 18, 19])
 (d 20
 (s (r [
 v 4 (.mv (.const .nil)),
 i 5 340] [])
 .ret)
 .skip))
 (s (r [
 m 21 6,
 m 4 21,
 i 5 0] [21])
 .ret))))⟩
theorem H.q3a : Has P F.q3a C.q3a := ⟨Tryz.f108, Tryz.func108, by kernel_rfl, by kernel_rfl⟩
noncomputable def C.q03 : MFunc := ⟨12, 2, [.tmp 4],
 (s (r [
 b 4 false] [])
 (s (r [
 m 5 0,
 v 6 (.bin .geq T.int (t 5) (c 0)),
 m 7 6,
 w 8 7 (M 0),
 w 9 7 (M 1),
 w 10 7 (A 8 9),
 v 11 (k 7 10),
 m 4 11] [5, 6, 7, 8, 9, 10, 11])
 .ret))⟩
theorem H.q03 : Has P F.q03 C.q03 := ⟨Tryz.f109, Tryz.func109, by kernel_rfl, by kernel_rfl⟩
noncomputable def C.q18 : MFunc := ⟨17, 1, [.tmp 2],
 (s (r [
 ⟨some 1, none, .box T.apiSealed (t 0)⟩,
 i 2 0] [])
 (s (s (r [
 g 3 0 1,
 l 4 3,
 g 5 1 1,
 l 6 5,
 g 7 2 1,
 l 8 7,
 f 9 F.q30 [(t 4), (t 6), (t 8)],
 v 10 (N 9),
 m 11 10,
 z 12 11 (G 3 1),
 z 13 11 (D 12),
 ⟨some 14, some (11, false), .call (.const (.func (.func F.q22) [] [])) [(t 13)]⟩,
 z 15 11 (N 14),
 v 16 (j 11 15)] [3, 4, 5, 6, 7, 8, 9, 10, 11, 12, 13, 14, 15])
 (d 16
 (s (r [
 i 2 340] [])
 .ret)
 .skip))
 (s (r [
 i 2 0] [])
 .ret)))⟩
theorem H.q18 : Has P F.q18 C.q18 := ⟨Tryz.f110, Tryz.func110, by kernel_rfl, by kernel_rfl⟩
noncomputable def C.q2r : MFunc := ⟨19, 2, [.tmp 4],
 (s (r [
 i 4 0] [])
 (s (s (r [
 i 5 0] [])
 (.block 0 (.loop (s (s (r [
 m 6 5,
 m 7 0,
 v 8 (n 7),
 v 9 (A 6 8)] [6, 7, 8])
 (d 9
 .skip
 (.exit 0)))
 (s (.block 1 (s (r [
 m 12 0,
 m 13 5,
 v 14 (I 1 12 13),
 l 15 14,
 m 16 1,
 v 17 (B 15 16)] [12, 13, 14, 15, 16])
 (d 17
 (s (r [
 m 18 5,
 m 4 18] [18])
 .ret)
 .skip)))
 (r [
 m 10 5,
 v 11 (p 10 1),
 m 5 11] [10, 11]))))))
 (s (r [
 v 4 (.mv (.const (.int (-1))))] [])
 .ret)))⟩
theorem H.q2r : Has P F.q2r C.q2r := ⟨Tryz.f111, Tryz.func111, by kernel_rfl, by kernel_rfl⟩
noncomputable def C.q4i : MDFunc := ⟨9, 1, [2], [.cell 2 1 false],
 (.pre [] (r [
 ⟨some 1, none, .box T.apiSealed (t 0)⟩,
 ⟨some 2, none, .alloc T.apiErrno [(.int 0)]⟩] [])
 (.push (.const (.func (.func F.q0q) [] [])) [(t 2)]
 (.pre [] (r [
 L 3 36 1,
 f 4 F.q2j [(t 3)]] [3, 4])
 (.pre [] (r [
 g 5 3 1,
 l 6 5,
 f 7 F.q4p [(t 6), (c 1073741788)],
 f 8 F.q33 [(t 7)]] [5, 6, 7, 8])
 (.pre [] (r [
 ⟨none, none, .store 1 (t 2) (c 0)⟩] [])
 (.pre [] .ret
 .done))))))⟩
theorem H.q4i : HasD P F.q4i C.q4i := ⟨Tryz.f112, Tryz.func112, by kernel_rfl, by kernel_rfl⟩
noncomputable def C.q4n : MFunc := ⟨13, 2, [.tmp 4],
 (s (r [
 i 4 0] [])
 (s (s (r [
 m 5 0,
 m 6 1,
 v 7 (A 5 6)] [5, 6])
 (d 7
 (r [
 m 8 0,
 v 9 (p 8 1073741789),
 m 0 9] [8, 9])
 .skip))
 (s (r [
 m 10 0,
 m 11 1,
 v 12 (.bin .sub T.int (t 10) (t 11)),
 m 4 12] [10, 11, 12])
 .ret)))⟩
theorem H.q4n : Has P F.q4n C.q4n := ⟨Tryz.f113, Tryz.func113, by kernel_rfl, by kernel_rfl⟩
noncomputable def C.q4j : MFunc := ⟨8, 2, [.tmp 3],
 (s (r [
 b 3 false] [])
 (s (r [
 m 4 0,
 l 5 1,
 f 6 F.q3w [(t 4), (t 5)],
 v 7 (N 6),
 m 3 7] [4, 5, 6, 7])
 .ret))⟩
theorem H.q4j : Has P F.q4j C.q4j := ⟨Tryz.f114, Tryz.func114, by kernel_rfl, by kernel_rfl⟩
noncomputable def C.q3w : MFunc := ⟨12, 2, [.tmp 4],
 (s (r [
 b 4 false] [])
 (s (r [
 m 5 0,
 v 6 (.bin .geq T.int (t 5) (c 0)),
 m 7 6,
 w 8 7 (M 0),
 w 9 7 (M 1),
 w 10 7 (.bin .leq T.int (t 8) (t 9)),
 v 11 (k 7 10),
 m 4 11] [5, 6, 7, 8, 9, 10, 11])
 .ret))⟩
theorem H.q3w : Has P F.q3w C.q3w := ⟨Tryz.f115, Tryz.func115, by kernel_rfl, by kernel_rfl⟩
noncomputable def C.q0n : MFunc := ⟨9, 2, [.tmp 4],
 (s (r [
 b 4 false] [])
 (s (r [
 m 5 0,
 m 6 1,
 f 7 F.q04 [(t 5), (t 6)],
 v 8 (.bin .geq T.int (t 7) (c 0)),
 m 4 8] [5, 6, 7, 8])
 .ret))⟩
theorem H.q0n : Has P F.q0n C.q0n := ⟨Tryz.f116, Tryz.func116, by kernel_rfl, by kernel_rfl⟩
noncomputable def C.q3s : MFunc := ⟨23, 3, [],
 (s (r [
 l 6 1,
 v 7 (n 6),
 i 8 0] [])
 (.block 0 (.loop (s (r [
 v 9 (A 8 7)] [])
 (s (d 9
 .skip
 (.exit 0))
 (s (.block 1 (s (r [
 m 10 8,
 v 11 (I 2 6 8),
 L 12 2 11,
 ⟨some 5, none, .alloc T.apiPoint q2⟩,
 m 4 10,
 y 2 5 12] [10, 11, 12])
 (s (r [
 m 13 4,
 l 14 2,
 v 15 (.bin .neq T.int (t 13) (t 14)),
 m 16 15,
 w 17 16 (M 0),
 w 18 16 (E 2 5),
 ⟨some 19, some (16, true), .call (t 17) [(t 18)]⟩,
 w 20 16 (N 19),
 v 21 (k 16 20)] [13, 14, 15, 16, 17, 18, 19, 20])
 (d 21
 .ret
 .skip))))
 (r [
 v 22 (p 8 1),
 m 8 22] [22])))))))⟩
theorem H.q3s : Has P F.q3s C.q3s := ⟨Tryz.f117, Tryz.func117, by kernel_rfl, by kernel_rfl⟩
noncomputable def C.q4q : MFunc := ⟨19, 1, [.tmp 2, .tmp 3],
 (s (r [
 ⟨some 1, none, .box T.apiValue (t 0)⟩,
 v 2 (.mv (.const .nil)),
 i 3 0] [])
 (s (s (r [
 L 5 4 1,
 f 6 F.q4z [(t 5)],
 m 4 6] [5, 6])
 (s (r [
 m 7 4,
 v 8 (.bin .neq T.apiErrno (t 7) (c 0))] [7])
 (d 8
 (s (r [
 m 9 4,
 v 2 (.mv (.const .nil)),
 m 3 9] [9])
 .ret)
 .skip)))
 (s (.draw true [
 a (g 11 0 1),
 a (l 12 11),
 a (L 17 4 1),
 h (f 10 F.q4f []),
 a (v 13 (.nilCheck (t 10))),
 a (v 14 (.indexArr 4 1 (t 13) (t 12))),
 a (g 15 0 14),
 a (l 16 15),
 h (⟨some 18, none, .call (t 16) [(.const .nil), (t 17)]⟩),
 a (m 2 18),
 a (i 3 0)] [10, 11, 12, 13, 14, 15, 16, 17, 18])
 .ret)))⟩
theorem H.q4q : Has P F.q4q C.q4q := ⟨Tryz.f118, Tryz.func118, by kernel_rfl, by kernel_rfl⟩
noncomputable def C.q3i : MFunc := ⟨63, 1, [.cell 2 4 true],
 (s (r [
 ⟨some 2, none, .alloc T.apiValue [(.int 0), (.int 0), (.val (.string ⟨#[]⟩)), .nil]⟩] [])
 (s (r [
 g 11 0 2,
 ⟨none, none, .store 1 (t 11) (c 3)⟩] [11])
 (s (s (r [
 m 12 0,
 v 13 (n 12),
 i 14 0] [])
 (.block 0 (.loop (s (r [
 v 15 (A 14 13)] [])
 (s (d 15
 .skip
 (.exit 0))
 (s (.block 1 (s (r [
 v 16 (I 1 12 14),
 l 17 16,
 m 4 17] [16, 17])
 (s (r [
 m 18 4] [])
 (.block 2 (s (r [
 v 19 (.assert T.int (.int 0) true (t 18)),
 x 20 1 19,
 x 21 0 19] [19])
 (d 20
 (s (r [
 m 5 21] [])
 (r [
 g 22 3 2,
 l 23 22,
 m 24 5,
 ⟨some 25, none, .val (.build [(.int 0), (.int 0), (.val (.string ⟨#[]⟩)), .nil] [(0, 1, (c 1)), (1, 1, (t 24))])⟩,
 ⟨some 26, none, .val (.buildSlice T.apiValue 1 [(.int 0), (.int 0), (.val (.string ⟨#[]⟩)), .nil] [(0, 4, (t 25))])⟩,
 ⟨some 27, none, .append T.apiValue 56 4 (t 23) (t 26)⟩,
 g 28 3 2,
 y 1 28 27] [22, 23, 24, 25, 26, 27, 28]))
 (s (r [
 v 29 (.assert T.Lint .nil true (t 18)),
 x 30 1 29,
 x 31 0 29] [29])
 (d 30
 (s (r [
 m 6 31] [])
 (s (r [
 v 7 (.mv (.const .nil))] [])
 (s (s (r [
 m 32 6,
 v 33 (n 32),
 i 34 0] [])
 (.block 3 (.loop (s (r [
 v 35 (A 34 33)] [])
 (s (d 35
 .skip
 (.exit 3))
 (s (.block 4 (s (r [
 v 36 (I 1 32 34),
 l 37 36,
 m 9 37] [36, 37])
 (r [
 m 38 7,
 m 39 9,
 v 40 (.mkIface T.int (t 39)),
 v 41 (.buildSlice T.interface 1 [(.val .nilIface)] [(0, 1, (t 40))]),
 ⟨some 42, none, .append T.interface 16 1 (t 38) (t 41)⟩,
 m 7 42] [38, 39, 40, 41, 42])))
 (r [
 v 43 (p 34 1),
 m 34 43] [43])))))))
 (.draw true [
 a (g 44 3 2),
 a (l 45 44),
 e (m 46 7),
 h (f 47 F.q3i [(t 46)]),
 (.late, ⟨some 48, none, .val (.buildSlice T.apiValue 1 [(.int 0), (.int 0), (.val (.string ⟨#[]⟩)), .nil] [(0, 4, (t 47))])⟩),
 h (⟨some 49, none, .append T.apiValue 56 4 (t 45) (t 48)⟩),
 a (g 50 3 2),
 (.last, y 1 50 49)] [44, 45, 46, 47, 48, 49, 50]))))
 (s (r [
 ⟨some 51, none, .val (.assert T.string (.val (.string ⟨#[]⟩)) true (t 18))⟩,
 x 52 1 51,
 x 53 0 51] [51])
 (d 52
 (s (r [
 m 10 53] [])
 (r [
 g 54 3 2,
 l 55 54,
 m 56 10,
 ⟨some 57, none, .val (.build [(.int 0), (.int 0), (.val (.string ⟨#[]⟩)), .nil] [(0, 1, (c 2)), (2, 1, (t 56))])⟩,
 ⟨some 58, none, .val (.buildSlice T.apiValue 1 [(.int 0), (.int 0), (.val (.string ⟨#[]⟩)), .nil] [(0, 4, (t 57))])⟩,
 ⟨some 59, none, .append T.apiValue 56 4 (t 55) (t 58)⟩,
 g 60 3 2,
 y 1 60 59] [54, 55, 56, 57, 58, 59, 60]))
 .skip))))))))))
 (r [
 v 61 (p 14 1),
 m 14 61] [61])))))))
 (s (r [
 L 62 4 2,
 y 4 2 62] [62])
 .ret))))⟩
theorem H.q3i : Has P F.q3i C.q3i := ⟨Tryz.f119, Tryz.func119, by kernel_rfl, by kernel_rfl⟩
noncomputable def C.q4h : MFunc := ⟨14, 2, [.cell 4 32 true],
 (s (r [
 ⟨some 4, none, .alloc T.apiDigest (o ([]))⟩] [])
 (s (r [
 m 6 0,
 ⟨some 7, none, .bytes (t 6)⟩,
 f 8 F.q4k [(t 7)],
 ⟨some 5, none, .alloc T.apiDigest (o ([]))⟩,
 y 32 5 8] [6, 7, 8])
 (s (r [
 v 9 (.sliceArr 32 1 (t 5) none none none),
 m 10 1,
 v 11 (.buildSlice T.Luint8 2 [.nil, .nil] [(0, 1, (t 9)), (1, 1, (t 10))]),
 f 12 F.q16 [(t 11)],
 f 13 F.q4k [(t 12)],
 y 32 4 13] [9, 10, 11, 12, 13])
 .ret)))⟩
theorem H.q4h : Has P F.q4h C.q4h := ⟨Tryz.f120, Tryz.func120, by kernel_rfl, by kernel_rfl⟩
noncomputable def C.q38 : MFunc := ⟨6, 1, [.tmp 2],
 (s (r [
 b 2 false] [])
 (s (r [
 m 3 0,
 m 4 0,
 v 5 (.bin .neq T.int (t 3) (t 4)),
 m 2 5] [3, 4, 5])
 .ret))⟩
theorem H.q38 : Has P F.q38 C.q38 := ⟨Tryz.f121, Tryz.func121, by kernel_rfl, by kernel_rfl⟩
noncomputable def C.q20 : MFunc := ⟨8, 2, [.tmp 3],
 (s (r [
 b 3 false] [])
 (s (r [
 l 4 1,
 m 5 0,
 ⟨some 6, none, .call (t 4) [(t 5)]⟩,
 v 7 (N 6),
 m 3 7] [4, 5, 6, 7])
 .ret))⟩
theorem H.q20 : Has P F.q20 C.q20 := ⟨Tryz.f122, Tryz.func122, by kernel_rfl, by kernel_rfl⟩
noncomputable def C.q0p : MFunc := ⟨9, 2, [.tmp 4],
 (s (r [
 b 4 false] [])
 (s (r [
 m 5 0,
 m 6 1,
 f 7 F.q0v [(t 5), (t 6)],
 v 8 (.bin .geq T.int (t 7) (c 0)),
 m 4 8] [5, 6, 7, 8])
 .ret))⟩
theorem H.q0p : Has P F.q0p C.q0p := ⟨Tryz.f123, Tryz.func123, by kernel_rfl, by kernel_rfl⟩
noncomputable def C.q1k : MFunc := ⟨8, 2, [.tmp 3],
 (s (r [
 ⟨some 2, none, .box T.apiSealed (t 0)⟩,
 b 3 false] [])
 (s (r [
 l 4 1,
 L 5 36 2,
 ⟨some 6, none, .call (t 4) [(t 5)]⟩,
 v 7 (N 6),
 m 3 7] [4, 5, 6, 7])
 .ret))⟩
theorem H.q1k : Has P F.q1k C.q1k := ⟨Tryz.f124, Tryz.func124, by kernel_rfl, by kernel_rfl⟩
noncomputable def C.q1u : MFunc := ⟨10, 2, [.tmp 4],
 (s (r [
 ⟨some 2, none, .box T.q47 (t 0)⟩,
 b 4 false] [])
 (s (r [
 g 5 0 2,
 g 6 3 5,
 l 7 6,
 m 8 1,
 f 9 F.q17 [(t 7), (t 8)],
 m 4 9] [5, 6, 7, 8, 9])
 .ret))⟩
theorem H.q1u : Has P F.q1u C.q1u := ⟨Tryz.f125, Tryz.func125, by kernel_rfl, by kernel_rfl⟩
noncomputable def C.q4y : MFunc := ⟨18, 1, [.tmp 2],
 (s (r [
 i 2 0] [])
 (s (r [
 i 3 0] [])
 (s (s (r [
 m 6 0,
 v 7 (n 6),
 i 8 0] [])
 (.block 0 (.loop (s (r [
 v 9 (A 8 7)] [])
 (s (d 9
 .skip
 (.exit 0))
 (s (.block 1 (s (r [
 v 10 (I 1 6 8),
 l 11 10,
 m 5 11] [10, 11])
 (s (r [
 m 12 5,
 m 13 3,
 v 14 (.bin .neq T.int (t 12) (t 13))] [12, 13])
 (d 14
 (s (r [
 m 15 5,
 m 2 15] [15])
 .ret)
 .skip))))
 (r [
 v 16 (p 8 1),
 m 8 16] [16])))))))
 (s (r [
 m 17 3,
 m 2 17] [17])
 .ret))))⟩
theorem H.q4y : Has P F.q4y C.q4y := ⟨Tryz.f126, Tryz.func126, by kernel_rfl, by kernel_rfl⟩
noncomputable def C.q0i : MFunc := ⟨9, 2, [.tmp 4],
 (s (r [
 b 4 false] [])
 (s (r [
 m 5 0,
 m 6 1,
 f 7 F.q0m [(t 5), (t 6)],
 v 8 (.bin .geq T.int (t 7) (c 0)),
 m 4 8] [5, 6, 7, 8])
 .ret))⟩
theorem H.q0i : Has P F.q0i C.q0i := ⟨Tryz.f127, Tryz.func127, by kernel_rfl, by kernel_rfl⟩
noncomputable def C.q1d : MFunc := ⟨8, 2, [.tmp 3],
 (s (r [
 ⟨some 2, none, .box T.apiKeyShare (t 0)⟩,
 b 3 false] [])
 (s (r [
 l 4 1,
 L 5 4 2,
 ⟨some 6, none, .call (t 4) [(t 5)]⟩,
 v 7 (N 6),
 m 3 7] [4, 5, 6, 7])
 .ret))⟩
theorem H.q1d : Has P F.q1d C.q1d := ⟨Tryz.f128, Tryz.func128, by kernel_rfl, by kernel_rfl⟩
noncomputable def C.q0r : MFunc := ⟨9, 2, [.tmp 4],
 (s (r [
 b 4 false] [])
 (s (r [
 m 5 0,
 m 6 1,
 f 7 F.q0w [(t 5), (t 6)],
 v 8 (.bin .geq T.int (t 7) (c 0)),
 m 4 8] [5, 6, 7, 8])
 .ret))⟩
theorem H.q0r : Has P F.q0r C.q0r := ⟨Tryz.f129, Tryz.func129, by kernel_rfl, by kernel_rfl⟩
noncomputable def C.q10 : MFunc := ⟨8, 2, [.tmp 3],
 (s (r [
 ⟨some 2, none, .box T.apiShown (t 0)⟩,
 b 3 false] [])
 (s (r [
 l 4 1,
 L 5 34 2,
 ⟨some 6, none, .call (t 4) [(t 5)]⟩,
 v 7 (N 6),
 m 3 7] [4, 5, 6, 7])
 .ret))⟩
theorem H.q10 : Has P F.q10 C.q10 := ⟨Tryz.f130, Tryz.func130, by kernel_rfl, by kernel_rfl⟩
noncomputable def C.q4s : MDFunc := ⟨27, 3, [8], [.tmp 6, .tmp 7, .cell 8 1 false],
 (.pre [] (r [
 ⟨some 3, none, .box T.apiSealed (t 0)⟩,
 ⟨some 5, none, .box T.apiDigest (t 2)⟩,
 v 6 (.mv (.const .nil)),
 b 7 false,
 ⟨some 8, none, .alloc T.apiErrno [(.int 0)]⟩] [])
 (.push (.const (.func (.func F.q0q) [] [])) [(t 8)]
 (.pre [6, 7] (r [
 L 10 36 3,
 m 11 1,
 f 12 F.q4r [(t 10), (t 11)],
 m 9 12] [10, 11, 12])
 (.pre [6, 7] (.draw true [
 e (m 13 9),
 h (f 14 F.q4p [(t 13), (c 1000)]),
 a (v 15 (N 14)),
 a (m 16 15),
 a (z 17 16 (E 36 3)),
 a (z 18 16 (M 9)),
 a (z 19 16 (M 1)),
 a (z 20 16 (E 32 5)),
 a (z 22 16 (G 4 3)),
 a (z 23 16 (E 32 22)),
 h (⟨some 21, some (16, false), .call (.const (.func (.func F.q4a) [] [])) [(t 17), (t 18), (t 19), (t 20)]⟩),
 a (z 24 16 (.eqAgg true (.int :: .int :: .int :: .int :: .int :: .int :: .int :: .int :: .int :: .int :: .int :: .int :: .int :: .int :: .int :: .int :: .int :: .int :: .int :: .int :: .int :: .int :: .int :: .int :: .int :: .int :: .int :: .int :: .int :: .int :: .int :: .int :: []) (t 21) (t 23))),
 a (v 25 (j 16 24))] [13, 14, 15, 16, 17, 18, 19, 20, 21, 22, 23, 24])
 (.pre [] (d 25
 (s (r [
 v 6 (.mv (.const .nil)),
 b 7 false,
 ⟨none, none, .store 1 (t 8) (c 0)⟩] [])
 .ret)
 .skip)
 (.pre [] (r [
 m 26 9,
 m 6 26,
 b 7 true,
 ⟨none, none, .store 1 (t 8) (c 0)⟩] [26])
 (.pre [6, 7] .ret
 .done)))))))⟩
theorem H.q4s : HasD P F.q4s C.q4s := ⟨Tryz.f131, Tryz.func131, by kernel_rfl, by kernel_rfl⟩
noncomputable def C.q0d : MFunc := ⟨49, 3, [.tmp 6, .tmp 7],
 (s (r [
 ⟨some 4, none, .box T.apiSealed (t 1)⟩,
 i 6 0,
 b 7 false] [])
 (s (r [
 m 12 0,
 v 13 (n 12),
 m 8 13] [12, 13])
 (s (r [
 m 14 8,
 i 9 0,
 m 10 14] [14])
 (s (.block 0 (.loop (s (s (r [
 m 15 9,
 m 16 10,
 v 17 (A 15 16)] [15, 16])
 (d 17
 .skip
 (.exit 0)))
 (.block 1 (s (r [
 m 18 9,
 m 19 10,
 v 20 (.bin .add T.int (t 18) (t 19)),
 v 21 (.toInt .u64 (t 20)),
 v 22 (.bin .shr T.uint (t 21) (.const (.val (.int .u64 1)))),
 v 23 (.toInt .i64 (t 22)),
 m 11 23] [18, 19, 20, 21, 22, 23])
 (s (.draw true [
 e (m 24 2),
 e (m 25 0),
 e (m 26 11),
 e (v 27 (I 36 25 26)),
 e (L 28 36 27),
 e (L 29 36 4),
 h (⟨some 30, none, .call (t 24) [(t 28), (t 29)]⟩),
 a (v 31 (.bin .lss T.int (t 30) (c 0)))] [24, 25, 26, 27, 28, 29, 30])
 (d 31
 (r [
 m 32 11,
 v 33 (p 32 1),
 m 9 33] [32, 33])
 (r [
 m 34 11,
 m 10 34] [34]))))))))
 (s (.draw true [
 a (m 35 9),
 e (m 36 9),
 e (m 37 8),
 e (v 38 (A 36 37)),
 e (m 39 38),
 e (w 40 39 (M 2)),
 e (w 41 39 (M 0)),
 e (w 42 39 (M 9)),
 e (w 43 39 (I 36 41 42)),
 e (w 44 39 (E 36 43)),
 e (w 45 39 (E 36 4)),
 h (⟨some 46, some (39, true), .call (t 40) [(t 44), (t 45)]⟩),
 a (w 47 39 (.bin .eql T.int (t 46) (c 0))),
 a (v 48 (k 39 47)),
 a (m 6 35),
 a (m 7 48)] [35, 36, 37, 38, 39, 40, 41, 42, 43, 44, 45, 46, 47, 48])
 .ret)))))⟩
theorem H.q0d : Has P F.q0d C.q0d := ⟨Tryz.f132, Tryz.func132, by kernel_rfl, by kernel_rfl⟩
noncomputable def C.q0j : MFunc := ⟨95, 3, [.tmp 6],
 (s (r [
 v 6 (.mv (.const .nil))] [])
 (s (r [
 m 10 0,
 m 11 1,
 v 12 (.slice 36 (t 10) (some (t 11)) none none)] [10, 11, 12])
 (s (r [
 m 13 2,
 v 14 (n 13),
 m 7 14] [13, 14])
 (s (s (r [
 m 15 7,
 v 16 (.bin .eql T.int (t 15) (c 0))] [15])
 (d 16
 (s (r [
 m 17 0,
 m 6 17] [17])
 .ret)
 .skip))
 (s (r [
 m 18 0,
 v 19 (n 18),
 m 8 19] [18, 19])
 (s (s (r [
 m 20 1,
 m 21 8,
 v 22 (B 20 21)] [20, 21])
 (d 22
 (s (r [
 m 23 0,
 m 24 2,
 ⟨some 25, none, .append T.apiSealed 80 36 (t 23) (t 24)⟩,
 m 6 25] [23, 24, 25])
 .ret)
 .skip))
 (s (s (r [
 m 26 8,
 m 27 7,
 v 28 (.bin .add T.int (t 26) (t 27)),
 m 29 0,
 v 30 (.cap (t 29)),
 v 31 (.bin .gtr T.int (t 28) (t 30))] [26, 27, 28, 29, 30])
 (d 31
 (s (r [
 m 32 0,
 m 33 1,
 v 34 (.slice 36 (t 32) none (some (t 33)) none),
 m 35 8,
 m 36 7,
 v 37 (.bin .add T.int (t 35) (t 36)),
 m 38 1,
 v 39 (.bin .sub T.int (t 37) (t 38)),
 ⟨some 40, none, .appendZ T.apiSealed 80 36 (.int 0 :: .int 0 :: .int 0 :: .nil :: o ([])) (t 34) (t 39)⟩,
 m 9 40] [32, 33, 34, 35, 36, 37, 38, 39, 40])
 (s (r [
 m 41 9,
 m 42 1,
 v 43 (.slice 36 (t 41) (some (t 42)) none none),
 m 44 2,
 ⟨some 45, none, .copy 36 (t 43) (t 44)⟩] [41, 42, 43, 44, 45])
 (s (.draw false [
 e (m 46 9),
 e (m 47 1),
 e (m 48 7),
 e (v 49 (.bin .add T.int (t 47) (t 48))),
 e (v 50 (.slice 36 (t 46) (some (t 49)) none none)),
 e (m 51 0),
 e (m 52 1),
 e (v 53 (.slice 36 (t 51) (some (t 52)) none none)),
 h (⟨some 54, none, .copy 36 (t 50) (t 53)⟩)] [46, 47, 48, 49, 50, 51, 52, 53, 54])
 (s (r [
 m 55 9,
 m 6 55] [55])
 .ret))))
 .skip))
 (s (r [
 m 56 0,
 m 57 8,
 m 58 7,
 v 59 (.bin .add T.int (t 57) (t 58)),
 v 60 (.slice 36 (t 56) none (some (t 59)) none),
 m 0 60] [56, 57, 58, 59, 60])
 (s (s (r [
 m 61 2,
 m 62 0,
 m 63 1,
 m 64 7,
 v 65 (.bin .add T.int (t 63) (t 64)),
 v 66 (.slice 36 (t 62) (some (t 65)) none none),
 f 67 F.q42 [(t 61), (t 66)],
 v 68 (N 67)] [61, 62, 63, 64, 65, 66, 67])
 (d 68
 (s (.draw false [
 e (m 69 0),
 e (m 70 1),
 e (m 71 7),
 e (v 72 (.bin .add T.int (t 70) (t 71))),
 e (v 73 (.slice 36 (t 69) (some (t 72)) none none)),
 e (m 74 0),
 e (m 75 1),
 e (v 76 (.slice 36 (t 74) (some (t 75)) none none)),
 h (⟨some 77, none, .copy 36 (t 73) (t 76)⟩)] [69, 70, 71, 72, 73, 74, 75, 76, 77])
 (s (r [
 m 78 0,
 m 79 1,
 v 80 (.slice 36 (t 78) (some (t 79)) none none),
 m 81 2,
 ⟨some 82, none, .copy 36 (t 80) (t 81)⟩] [78, 79, 80, 81, 82])
 (s (r [
 m 83 0,
 m 6 83] [83])
 .ret)))
 .skip))
 (s (r [
 m 84 0,
 m 85 8,
 v 86 (.slice 36 (t 84) (some (t 85)) none none),
 m 87 2,
 ⟨some 88, none, .copy 36 (t 86) (t 87)⟩] [84, 85, 86, 87, 88])
 (s (r [
 m 89 0,
 m 90 1,
 v 91 (.slice 36 (t 89) (some (t 90)) none none),
 m 92 7,
 f 93 F.q45 [(t 91), (t 92)]] [89, 90, 91, 92, 93])
 (s (r [
 m 94 0,
 m 6 94] [94])
 .ret))))))))))))⟩
theorem H.q0j : Has P F.q0j C.q0j := ⟨Tryz.f133, Tryz.func133, by kernel_rfl, by kernel_rfl⟩
noncomputable def C.q02 : MFunc := ⟨8, 1, [.tmp 2],
 (s (r [
 v 2 (.mv (.const .nil))] [])
 (s (s (r [
 m 3 0,
 ⟨some 4, none, .eqNil false .slice (t 3)⟩] [3])
 (d 4
 (s (r [
 v 2 (.mv (.const .nil))] [])
 .ret)
 .skip))
 (s (r [
 v 5 (.buildSlice T.apiSealed 0 [] []),
 m 6 0,
 ⟨some 7, none, .append T.apiSealed 80 36 (t 5) (t 6)⟩,
 m 2 7] [5, 6, 7])
 .ret)))⟩
theorem H.q02 : Has P F.q02 C.q02 := ⟨Tryz.f134, Tryz.func134, by kernel_rfl, by kernel_rfl⟩
noncomputable def C.q1j : MFunc := ⟨26, 2, [.tmp 4],
 (s (r [
 b 4 false] [])
 (s (s (r [
 m 6 0,
 v 7 (n 6),
 m 8 1,
 v 9 (n 8),
 v 10 (.bin .neq T.int (t 7) (t 9))] [6, 7, 8, 9])
 (d 10
 (s (r [
 b 4 false] [])
 .ret)
 .skip))
 (s (s (r [
 m 11 0,
 v 12 (n 11),
 i 13 0] [11])
 (.block 0 (.loop (s (r [
 v 14 (A 13 12)] [])
 (s (d 14
 .skip
 (.exit 0))
 (s (.block 1 (s (r [
 m 15 13,
 m 5 15] [15])
 (s (.draw false [
 e (m 16 0),
 e (m 17 5),
 e (v 18 (I 1 16 17)),
 e (l 19 18),
 e (m 20 1),
 e (m 21 5),
 e (v 22 (I 1 20 21)),
 e (l 23 22),
 e (v 24 (.bin .neq T.int (t 19) (t 23)))] [16, 17, 18, 19, 20, 21, 22, 23])
 (d 24
 (s (r [
 b 4 false] [])
 .ret)
 .skip))))
 (r [
 v 25 (p 13 1),
 m 13 25] [25])))))))
 (s (r [
 b 4 true] [])
 .ret))))⟩
theorem H.q1j : Has P F.q1j C.q1j := ⟨Tryz.f135, Tryz.func135, by kernel_rfl, by kernel_rfl⟩
noncomputable def C.q0a : MFunc := ⟨49, 3, [.tmp 6, .tmp 7],
 (s (r [
 ⟨some 4, none, .box T.apiKeyShare (t 1)⟩,
 i 6 0,
 b 7 false] [])
 (s (r [
 m 12 0,
 v 13 (n 12),
 m 8 13] [12, 13])
 (s (r [
 m 14 8,
 i 9 0,
 m 10 14] [14])
 (s (.block 0 (.loop (s (s (r [
 m 15 9,
 m 16 10,
 v 17 (A 15 16)] [15, 16])
 (d 17
 .skip
 (.exit 0)))
 (.block 1 (s (r [
 m 18 9,
 m 19 10,
 v 20 (.bin .add T.int (t 18) (t 19)),
 v 21 (.toInt .u64 (t 20)),
 v 22 (.bin .shr T.uint (t 21) (.const (.val (.int .u64 1)))),
 v 23 (.toInt .i64 (t 22)),
 m 11 23] [18, 19, 20, 21, 22, 23])
 (s (.draw true [
 e (m 24 2),
 e (m 25 0),
 e (m 26 11),
 e (v 27 (I 4 25 26)),
 e (L 28 4 27),
 e (L 29 4 4),
 h (⟨some 30, none, .call (t 24) [(t 28), (t 29)]⟩),
 a (v 31 (.bin .lss T.int (t 30) (c 0)))] [24, 25, 26, 27, 28, 29, 30])
 (d 31
 (r [
 m 32 11,
 v 33 (p 32 1),
 m 9 33] [32, 33])
 (r [
 m 34 11,
 m 10 34] [34]))))))))
 (s (.draw true [
 a (m 35 9),
 e (m 36 9),
 e (m 37 8),
 e (v 38 (A 36 37)),
 e (m 39 38),
 e (w 40 39 (M 2)),
 e (w 41 39 (M 0)),
 e (w 42 39 (M 9)),
 e (w 43 39 (I 4 41 42)),
 e (w 44 39 (E 4 43)),
 e (w 45 39 (E 4 4)),
 h (⟨some 46, some (39, true), .call (t 40) [(t 44), (t 45)]⟩),
 a (w 47 39 (.bin .eql T.int (t 46) (c 0))),
 a (v 48 (k 39 47)),
 a (m 6 35),
 a (m 7 48)] [35, 36, 37, 38, 39, 40, 41, 42, 43, 44, 45, 46, 47, 48])
 .ret)))))⟩
theorem H.q0a : Has P F.q0a C.q0a := ⟨Tryz.f136, Tryz.func136, by kernel_rfl, by kernel_rfl⟩
noncomputable def C.q0f : MFunc := ⟨95, 3, [.tmp 6],
 (s (r [
 v 6 (.mv (.const .nil))] [])
 (s (r [
 m 10 0,
 m 11 1,
 v 12 (.slice 4 (t 10) (some (t 11)) none none)] [10, 11, 12])
 (s (r [
 m 13 2,
 v 14 (n 13),
 m 7 14] [13, 14])
 (s (s (r [
 m 15 7,
 v 16 (.bin .eql T.int (t 15) (c 0))] [15])
 (d 16
 (s (r [
 m 17 0,
 m 6 17] [17])
 .ret)
 .skip))
 (s (r [
 m 18 0,
 v 19 (n 18),
 m 8 19] [18, 19])
 (s (s (r [
 m 20 1,
 m 21 8,
 v 22 (B 20 21)] [20, 21])
 (d 22
 (s (r [
 m 23 0,
 m 24 2,
 ⟨some 25, none, .append T.apiKeyShare 32 4 (t 23) (t 24)⟩,
 m 6 25] [23, 24, 25])
 .ret)
 .skip))
 (s (s (r [
 m 26 8,
 m 27 7,
 v 28 (.bin .add T.int (t 26) (t 27)),
 m 29 0,
 v 30 (.cap (t 29)),
 v 31 (.bin .gtr T.int (t 28) (t 30))] [26, 27, 28, 29, 30])
 (d 31
 (s (r [
 m 32 0,
 m 33 1,
 v 34 (.slice 4 (t 32) none (some (t 33)) none),
 m 35 8,
 m 36 7,
 v 37 (.bin .add T.int (t 35) (t 36)),
 m 38 1,
 v 39 (.bin .sub T.int (t 37) (t 38)),
 ⟨some 40, none, .appendZ T.apiKeyShare 32 4 q1 (t 34) (t 39)⟩,
 m 9 40] [32, 33, 34, 35, 36, 37, 38, 39, 40])
 (s (r [
 m 41 9,
 m 42 1,
 v 43 (.slice 4 (t 41) (some (t 42)) none none),
 m 44 2,
 ⟨some 45, none, .copy 4 (t 43) (t 44)⟩] [41, 42, 43, 44, 45])
 (s (.draw false [
 e (m 46 9),
 e (m 47 1),
 e (m 48 7),
 e (v 49 (.bin .add T.int (t 47) (t 48))),
 e (v 50 (.slice 4 (t 46) (some (t 49)) none none)),
 e (m 51 0),
 e (m 52 1),
 e (v 53 (.slice 4 (t 51) (some (t 52)) none none)),
 h (⟨some 54, none, .copy 4 (t 50) (t 53)⟩)] [46, 47, 48, 49, 50, 51, 52, 53, 54])
 (s (r [
 m 55 9,
 m 6 55] [55])
 .ret))))
 .skip))
 (s (r [
 m 56 0,
 m 57 8,
 m 58 7,
 v 59 (.bin .add T.int (t 57) (t 58)),
 v 60 (.slice 4 (t 56) none (some (t 59)) none),
 m 0 60] [56, 57, 58, 59, 60])
 (s (s (r [
 m 61 2,
 m 62 0,
 m 63 1,
 m 64 7,
 v 65 (.bin .add T.int (t 63) (t 64)),
 v 66 (.slice 4 (t 62) (some (t 65)) none none),
 f 67 F.q41 [(t 61), (t 66)],
 v 68 (N 67)] [61, 62, 63, 64, 65, 66, 67])
 (d 68
 (s (.draw false [
 e (m 69 0),
 e (m 70 1),
 e (m 71 7),
 e (v 72 (.bin .add T.int (t 70) (t 71))),
 e (v 73 (.slice 4 (t 69) (some (t 72)) none none)),
 e (m 74 0),
 e (m 75 1),
 e (v 76 (.slice 4 (t 74) (some (t 75)) none none)),
 h (⟨some 77, none, .copy 4 (t 73) (t 76)⟩)] [69, 70, 71, 72, 73, 74, 75, 76, 77])
 (s (r [
 m 78 0,
 m 79 1,
 v 80 (.slice 4 (t 78) (some (t 79)) none none),
 m 81 2,
 ⟨some 82, none, .copy 4 (t 80) (t 81)⟩] [78, 79, 80, 81, 82])
 (s (r [
 m 83 0,
 m 6 83] [83])
 .ret)))
 .skip))
 (s (r [
 m 84 0,
 m 85 8,
 v 86 (.slice 4 (t 84) (some (t 85)) none none),
 m 87 2,
 ⟨some 88, none, .copy 4 (t 86) (t 87)⟩] [84, 85, 86, 87, 88])
 (s (r [
 m 89 0,
 m 90 1,
 v 91 (.slice 4 (t 89) (some (t 90)) none none),
 m 92 7,
 f 93 F.q44 [(t 91), (t 92)]] [89, 90, 91, 92, 93])
 (s (r [
 m 94 0,
 m 6 94] [94])
 .ret))))))))))))⟩
theorem H.q0f : Has P F.q0f C.q0f := ⟨Tryz.f137, Tryz.func137, by kernel_rfl, by kernel_rfl⟩
noncomputable def C.q0u : MFunc := ⟨8, 1, [.tmp 2],
 (s (r [
 v 2 (.mv (.const .nil))] [])
 (s (s (r [
 m 3 0,
 ⟨some 4, none, .eqNil false .slice (t 3)⟩] [3])
 (d 4
 (s (r [
 v 2 (.mv (.const .nil))] [])
 .ret)
 .skip))
 (s (r [
 v 5 (.buildSlice T.apiKeyShare 0 [] []),
 m 6 0,
 ⟨some 7, none, .append T.apiKeyShare 32 4 (t 5) (t 6)⟩,
 m 2 7] [5, 6, 7])
 .ret)))⟩
theorem H.q0u : Has P F.q0u C.q0u := ⟨Tryz.f138, Tryz.func138, by kernel_rfl, by kernel_rfl⟩
noncomputable def C.q0e : MFunc := ⟨49, 3, [.tmp 6, .tmp 7],
 (s (r [
 ⟨some 4, none, .box T.apiShown (t 1)⟩,
 i 6 0,
 b 7 false] [])
 (s (r [
 m 12 0,
 v 13 (n 12),
 m 8 13] [12, 13])
 (s (r [
 m 14 8,
 i 9 0,
 m 10 14] [14])
 (s (.block 0 (.loop (s (s (r [
 m 15 9,
 m 16 10,
 v 17 (A 15 16)] [15, 16])
 (d 17
 .skip
 (.exit 0)))
 (.block 1 (s (r [
 m 18 9,
 m 19 10,
 v 20 (.bin .add T.int (t 18) (t 19)),
 v 21 (.toInt .u64 (t 20)),
 v 22 (.bin .shr T.uint (t 21) (.const (.val (.int .u64 1)))),
 v 23 (.toInt .i64 (t 22)),
 m 11 23] [18, 19, 20, 21, 22, 23])
 (s (.draw true [
 e (m 24 2),
 e (m 25 0),
 e (m 26 11),
 e (v 27 (I 34 25 26)),
 e (L 28 34 27),
 e (L 29 34 4),
 h (⟨some 30, none, .call (t 24) [(t 28), (t 29)]⟩),
 a (v 31 (.bin .lss T.int (t 30) (c 0)))] [24, 25, 26, 27, 28, 29, 30])
 (d 31
 (r [
 m 32 11,
 v 33 (p 32 1),
 m 9 33] [32, 33])
 (r [
 m 34 11,
 m 10 34] [34]))))))))
 (s (.draw true [
 a (m 35 9),
 e (m 36 9),
 e (m 37 8),
 e (v 38 (A 36 37)),
 e (m 39 38),
 e (w 40 39 (M 2)),
 e (w 41 39 (M 0)),
 e (w 42 39 (M 9)),
 e (w 43 39 (I 34 41 42)),
 e (w 44 39 (E 34 43)),
 e (w 45 39 (E 34 4)),
 h (⟨some 46, some (39, true), .call (t 40) [(t 44), (t 45)]⟩),
 a (w 47 39 (.bin .eql T.int (t 46) (c 0))),
 a (v 48 (k 39 47)),
 a (m 6 35),
 a (m 7 48)] [35, 36, 37, 38, 39, 40, 41, 42, 43, 44, 45, 46, 47, 48])
 .ret)))))⟩
theorem H.q0e : Has P F.q0e C.q0e := ⟨Tryz.f139, Tryz.func139, by kernel_rfl, by kernel_rfl⟩
noncomputable def C.q0l : MFunc := ⟨95, 3, [.tmp 6],
 (s (r [
 v 6 (.mv (.const .nil))] [])
 (s (r [
 m 10 0,
 m 11 1,
 v 12 (.slice 34 (t 10) (some (t 11)) none none)] [10, 11, 12])
 (s (r [
 m 13 2,
 v 14 (n 13),
 m 7 14] [13, 14])
 (s (s (r [
 m 15 7,
 v 16 (.bin .eql T.int (t 15) (c 0))] [15])
 (d 16
 (s (r [
 m 17 0,
 m 6 17] [17])
 .ret)
 .skip))
 (s (r [
 m 18 0,
 v 19 (n 18),
 m 8 19] [18, 19])
 (s (s (r [
 m 20 1,
 m 21 8,
 v 22 (B 20 21)] [20, 21])
 (d 22
 (s (r [
 m 23 0,
 m 24 2,
 ⟨some 25, none, .append T.apiShown 64 34 (t 23) (t 24)⟩,
 m 6 25] [23, 24, 25])
 .ret)
 .skip))
 (s (s (r [
 m 26 8,
 m 27 7,
 v 28 (.bin .add T.int (t 26) (t 27)),
 m 29 0,
 v 30 (.cap (t 29)),
 v 31 (.bin .gtr T.int (t 28) (t 30))] [26, 27, 28, 29, 30])
 (d 31
 (s (r [
 m 32 0,
 m 33 1,
 v 34 (.slice 34 (t 32) none (some (t 33)) none),
 m 35 8,
 m 36 7,
 v 37 (.bin .add T.int (t 35) (t 36)),
 m 38 1,
 v 39 (.bin .sub T.int (t 37) (t 38)),
 ⟨some 40, none, .appendZ T.apiShown 64 34 (.int 0 :: .nil :: o ([])) (t 34) (t 39)⟩,
 m 9 40] [32, 33, 34, 35, 36, 37, 38, 39, 40])
 (s (r [
 m 41 9,
 m 42 1,
 v 43 (.slice 34 (t 41) (some (t 42)) none none),
 m 44 2,
 ⟨some 45, none, .copy 34 (t 43) (t 44)⟩] [41, 42, 43, 44, 45])
 (s (.draw false [
 e (m 46 9),
 e (m 47 1),
 e (m 48 7),
 e (v 49 (.bin .add T.int (t 47) (t 48))),
 e (v 50 (.slice 34 (t 46) (some (t 49)) none none)),
 e (m 51 0),
 e (m 52 1),
 e (v 53 (.slice 34 (t 51) (some (t 52)) none none)),
 h (⟨some 54, none, .copy 34 (t 50) (t 53)⟩)] [46, 47, 48, 49, 50, 51, 52, 53, 54])
 (s (r [
 m 55 9,
 m 6 55] [55])
 .ret))))
 .skip))
 (s (r [
 m 56 0,
 m 57 8,
 m 58 7,
 v 59 (.bin .add T.int (t 57) (t 58)),
 v 60 (.slice 34 (t 56) none (some (t 59)) none),
 m 0 60] [56, 57, 58, 59, 60])
 (s (s (r [
 m 61 2,
 m 62 0,
 m 63 1,
 m 64 7,
 v 65 (.bin .add T.int (t 63) (t 64)),
 v 66 (.slice 34 (t 62) (some (t 65)) none none),
 f 67 F.q43 [(t 61), (t 66)],
 v 68 (N 67)] [61, 62, 63, 64, 65, 66, 67])
 (d 68
 (s (.draw false [
 e (m 69 0),
 e (m 70 1),
 e (m 71 7),
 e (v 72 (.bin .add T.int (t 70) (t 71))),
 e (v 73 (.slice 34 (t 69) (some (t 72)) none none)),
 e (m 74 0),
 e (m 75 1),
 e (v 76 (.slice 34 (t 74) (some (t 75)) none none)),
 h (⟨some 77, none, .copy 34 (t 73) (t 76)⟩)] [69, 70, 71, 72, 73, 74, 75, 76, 77])
 (s (r [
 m 78 0,
 m 79 1,
 v 80 (.slice 34 (t 78) (some (t 79)) none none),
 m 81 2,
 ⟨some 82, none, .copy 34 (t 80) (t 81)⟩] [78, 79, 80, 81, 82])
 (s (r [
 m 83 0,
 m 6 83] [83])
 .ret)))
 .skip))
 (s (r [
 m 84 0,
 m 85 8,
 v 86 (.slice 34 (t 84) (some (t 85)) none none),
 m 87 2,
 ⟨some 88, none, .copy 34 (t 86) (t 87)⟩] [84, 85, 86, 87, 88])
 (s (r [
 m 89 0,
 m 90 1,
 v 91 (.slice 34 (t 89) (some (t 90)) none none),
 m 92 7,
 f 93 F.q46 [(t 91), (t 92)]] [89, 90, 91, 92, 93])
 (s (r [
 m 94 0,
 m 6 94] [94])
 .ret))))))))))))⟩
theorem H.q0l : Has P F.q0l C.q0l := ⟨Tryz.f140, Tryz.func140, by kernel_rfl, by kernel_rfl⟩
noncomputable def C.q08 : MFunc := ⟨8, 1, [.tmp 2],
 (s (r [
 v 2 (.mv (.const .nil))] [])
 (s (s (r [
 m 3 0,
 ⟨some 4, none, .eqNil false .slice (t 3)⟩] [3])
 (d 4
 (s (r [
 v 2 (.mv (.const .nil))] [])
 .ret)
 .skip))
 (s (r [
 v 5 (.buildSlice T.apiShown 0 [] []),
 m 6 0,
 ⟨some 7, none, .append T.apiShown 64 34 (t 5) (t 6)⟩,
 m 2 7] [5, 6, 7])
 .ret)))⟩
theorem H.q08 : Has P F.q08 C.q08 := ⟨Tryz.f141, Tryz.func141, by kernel_rfl, by kernel_rfl⟩
noncomputable def C.q0g : MFunc := ⟨49, 3, [.tmp 6, .tmp 7],
 (s (r [
 i 6 0,
 b 7 false] [])
 (s (r [
 m 12 0,
 v 13 (n 12),
 m 8 13] [12, 13])
 (s (r [
 m 14 8,
 i 9 0,
 m 10 14] [14])
 (s (.block 0 (.loop (s (s (r [
 m 15 9,
 m 16 10,
 v 17 (A 15 16)] [15, 16])
 (d 17
 .skip
 (.exit 0)))
 (.block 1 (s (r [
 m 18 9,
 m 19 10,
 v 20 (.bin .add T.int (t 18) (t 19)),
 v 21 (.toInt .u64 (t 20)),
 v 22 (.bin .shr T.uint (t 21) (.const (.val (.int .u64 1)))),
 v 23 (.toInt .i64 (t 22)),
 m 11 23] [18, 19, 20, 21, 22, 23])
 (s (r [
 m 24 2,
 m 25 0,
 m 26 11,
 v 27 (I 36 25 26),
 L 28 36 27,
 m 29 1,
 ⟨some 30, none, .call (t 24) [(t 28), (t 29)]⟩,
 v 31 (.bin .lss T.int (t 30) (c 0))] [24, 25, 26, 27, 28, 29, 30])
 (d 31
 (r [
 m 32 11,
 v 33 (p 32 1),
 m 9 33] [32, 33])
 (r [
 m 34 11,
 m 10 34] [34]))))))))
 (s (r [
 m 35 9,
 m 36 9,
 m 37 8,
 v 38 (A 36 37),
 m 39 38,
 w 40 39 (M 2),
 w 41 39 (M 0),
 w 42 39 (M 9),
 w 43 39 (I 36 41 42),
 w 44 39 (E 36 43),
 w 45 39 (M 1),
 ⟨some 46, some (39, true), .call (t 40) [(t 44), (t 45)]⟩,
 w 47 39 (.bin .eql T.int (t 46) (c 0)),
 v 48 (k 39 47),
 m 6 35,
 m 7 48] [35, 36, 37, 38, 39, 40, 41, 42, 43, 44, 45, 46, 47, 48])
 .ret)))))⟩
theorem H.q0g : Has P F.q0g C.q0g := ⟨Tryz.f142, Tryz.func142, by kernel_rfl, by kernel_rfl⟩
noncomputable def C.q3x : MFunc := ⟨9, 2, [.tmp 4],
 (s (r [
 ⟨some 2, none, .box T.apiSealed (t 0)⟩,
 i 4 0] [])
 (s (r [
 g 5 2 2,
 l 6 5,
 m 7 1,
 f 8 F.q0z [(t 6), (t 7)],
 m 4 8] [5, 6, 7, 8])
 .ret))⟩
theorem H.q3x : Has P F.q3x C.q3x := ⟨Tryz.f143, Tryz.func143, by kernel_rfl, by kernel_rfl⟩
noncomputable def C.q0h : MFunc := ⟨49, 3, [.tmp 6, .tmp 7],
 (s (r [
 i 6 0,
 b 7 false] [])
 (s (r [
 m 12 0,
 v 13 (n 12),
 m 8 13] [12, 13])
 (s (r [
 m 14 8,
 i 9 0,
 m 10 14] [14])
 (s (.block 0 (.loop (s (s (r [
 m 15 9,
 m 16 10,
 v 17 (A 15 16)] [15, 16])
 (d 17
 .skip
 (.exit 0)))
 (.block 1 (s (r [
 m 18 9,
 m 19 10,
 v 20 (.bin .add T.int (t 18) (t 19)),
 v 21 (.toInt .u64 (t 20)),
 v 22 (.bin .shr T.uint (t 21) (.const (.val (.int .u64 1)))),
 v 23 (.toInt .i64 (t 22)),
 m 11 23] [18, 19, 20, 21, 22, 23])
 (s (r [
 m 24 2,
 m 25 0,
 m 26 11,
 v 27 (I 34 25 26),
 L 28 34 27,
 m 29 1,
 ⟨some 30, none, .call (t 24) [(t 28), (t 29)]⟩,
 v 31 (.bin .lss T.int (t 30) (c 0))] [24, 25, 26, 27, 28, 29, 30])
 (d 31
 (r [
 m 32 11,
 v 33 (p 32 1),
 m 9 33] [32, 33])
 (r [
 m 34 11,
 m 10 34] [34]))))))))
 (s (r [
 m 35 9,
 m 36 9,
 m 37 8,
 v 38 (A 36 37),
 m 39 38,
 w 40 39 (M 2),
 w 41 39 (M 0),
 w 42 39 (M 9),
 w 43 39 (I 34 41 42),
 w 44 39 (E 34 43),
 w 45 39 (M 1),
 ⟨some 46, some (39, true), .call (t 40) [(t 44), (t 45)]⟩,
 w 47 39 (.bin .eql T.int (t 46) (c 0)),
 v 48 (k 39 47),
 m 6 35,
 m 7 48] [35, 36, 37, 38, 39, 40, 41, 42, 43, 44, 45, 46, 47, 48])
 .ret)))))⟩
theorem H.q0h : Has P F.q0h C.q0h := ⟨Tryz.f144, Tryz.func144, by kernel_rfl, by kernel_rfl⟩
noncomputable def C.q11 : MFunc := ⟨9, 2, [.tmp 4],
 (s (r [
 ⟨some 2, none, .box T.apiShown (t 0)⟩,
 i 4 0] [])
 (s (r [
 g 5 0 2,
 l 6 5,
 m 7 1,
 f 8 F.q0z [(t 6), (t 7)],
 m 4 8] [5, 6, 7, 8])
 .ret))⟩
theorem H.q11 : Has P F.q11 C.q11 := ⟨Tryz.f145, Tryz.func145, by kernel_rfl, by kernel_rfl⟩
noncomputable def C.q3g : MFunc := ⟨85, 3, [.tmp 6, .tmp 7],
 (s (r [
 ⟨some 3, none, .box T.q47 (t 0)⟩,
 i 6 0,
 b 7 false] [])
 (s (r [
 v 8 (.mv (.const .nil))] [])
 (s (s (r [
 g 15 0 3,
 g 16 8 15,
 l 17 16,
 v 18 (n 17),
 i 19 0] [15, 16])
 (.block 0 (.loop (s (r [
 v 20 (A 19 18)] [])
 (s (d 20
 .skip
 (.exit 0))
 (s (.block 1 (s (r [
 v 21 (I 4 17 19),
 L 22 4 21,
 ⟨some 10, none, .alloc T.apiKeyShare q1⟩,
 y 4 10 22] [21, 22])
 (s (r [
 g 23 0 10,
 l 24 23,
 m 25 1,
 v 26 (B 24 25),
 m 27 26,
 w 28 27 (G 1 10),
 w 29 27 (D 28),
 w 30 27 (M 2),
 w 31 27 (B 29 30),
 v 32 (k 27 31)] [23, 24, 25, 26, 27, 28, 29, 30, 31])
 (d 32
 (r [
 m 33 8,
 g 34 2 10,
 l 35 34,
 v 36 (p 35 1),
 g 37 3 10,
 l 38 37,
 v 39 (.build q2 [(0, 1, (t 36)), (1, 1, (t 38))]),
 v 40 (.buildSlice T.apiPoint 1 q2 [(0, 2, (t 39))]),
 ⟨some 41, none, .append T.apiPoint 16 2 (t 33) (t 40)⟩,
 m 8 41] [33, 34, 35, 36, 37, 38, 39, 40, 41])
 .skip))))
 (r [
 v 42 (p 19 1),
 m 19 42] [42])))))))
 (s (s (r [
 m 43 8,
 v 44 (n 43),
 g 45 0 3,
 g 46 4 45,
 l 47 46,
 v 48 (A 44 47)] [43, 44, 45, 46, 47])
 (d 48
 (s (r [
 i 6 0,
 b 7 false] [])
 .ret)
 .skip))
 (s (s (r [
 m 49 8,
 g 50 0 3,
 g 51 4 50,
 l 52 51,
 v 53 (.slice 2 (t 49) (some (t 52)) none none),
 v 54 (n 53),
 i 55 0] [49, 50, 51, 52])
 (.block 2 (.loop (s (r [
 v 56 (A 55 54)] [])
 (s (d 56
 .skip
 (.exit 2))
 (s (.block 3 (s (r [
 v 57 (I 2 53 55),
 L 58 2 57,
 ⟨some 12, none, .alloc T.apiPoint q2⟩,
 y 2 12 58] [57, 58])
 (s (.draw true [
 e (m 60 8),
 e (g 61 0 3),
 e (g 62 4 61),
 e (l 63 62),
 e (v 64 (.slice 2 (t 60) none (some (t 63)) none)),
 e (g 65 0 12),
 e (l 66 65),
 h (f 67 F.q40 [(t 64), (t 66)]),
 a (m 59 67),
 a (x 68 0 59),
 a (x 69 1 59),
 a (m 13 68),
 a (m 14 69)] [60, 61, 62, 63, 64, 65, 66, 67, 59, 68, 69, 14])
 (s (r [
 m 70 13,
 g 71 1 12,
 l 72 71,
 v 73 (.bin .neq T.int (t 70) (t 72))] [70, 71, 72])
 (d 73
 (s (r [
 i 6 0,
 b 7 false] [])
 .ret)
 .skip)))))
 (r [
 v 74 (p 55 1),
 m 55 74] [74])))))))
 (s (r [
 m 76 8,
 g 77 0 3,
 g 78 4 77,
 l 79 78,
 v 80 (.slice 2 (t 76) none (some (t 79)) none),
 f 81 F.q40 [(t 80), (c 0)],
 m 75 81,
 x 82 0 75,
 x 83 1 75,
 m 6 82] [76, 77, 78, 79, 80, 81, 75, 82, 83])
 (s (r [
 m 84 6,
 m 6 84,
 b 7 true] [84])
 .ret)))))))⟩
theorem H.q3g : Has P F.q3g C.q3g := ⟨Tryz.f146, Tryz.func146, by kernel_rfl, by kernel_rfl⟩
noncomputable def C.q2i : MFunc := ⟨46, 2, [.tmp 4, .tmp 5],
 (s (r [
 ⟨some 2, none, .box T.apiSealed (t 0)⟩,
 v 4 (.mv (.const .nil)),
 i 5 0] [])
 (s (s (r [
 L 8 36 2,
 f 9 F.q18 [(t 8)],
 v 10 (.bin .neq T.apiErrno (t 9) (c 0)),
 m 11 10,
 z 12 11 (M 1),
 ⟨some 13, some (11, false), .call (.const (.func (.func F.q22) [] [])) [(t 12)]⟩,
 z 14 11 (N 13),
 v 15 (j 11 14),
 m 16 15,
 z 17 16 (M 1),
 z 18 16 (n 17),
 z 19 16 (G 3 2),
 z 20 16 (D 19),
 z 21 16 (n 20),
 z 22 16 (.bin .neq T.int (t 18) (t 21)),
 v 23 (j 16 22)] [8, 9, 10, 11, 12, 13, 14, 15, 16, 17, 18, 19, 20, 21, 22])
 (d 23
 (s (r [
 v 4 (.mv (.const .nil)),
 i 5 340] [])
 .ret)
 .skip))
 (s (r [
 v 6 (.mv (.const .nil))] [])
 (s (s (r [
 i 7 0] [])
 (.block 0 (.loop (s (s (r [
 m 24 7,
 m 25 1,
 v 26 (n 25),
 v 27 (A 24 26)] [24, 25, 26])
 (d 27
 .skip
 (.exit 0)))
 (s (.block 1 (.draw true [
 e (m 30 6),
 e (g 31 3 2),
 e (l 32 31),
 e (m 33 7),
 e (v 34 (I 1 32 33)),
 e (l 35 34),
 e (m 36 1),
 e (m 37 7),
 e (v 38 (I 1 36 37)),
 e (l 39 38),
 e (v 40 (.bin .sub T.int (t 35) (t 39))),
 e (v 41 (p 40 1073741789)),
 e (v 42 (.bin .rem T.int (t 41) (c 1073741789))),
 e (v 43 (.buildSlice T.int 1 [(.int 0)] [(0, 1, (t 42))])),
 h (⟨some 44, none, .append T.int 8 1 (t 30) (t 43)⟩),
 a (m 6 44)] [30, 31, 32, 33, 34, 35, 36, 37, 38, 39, 40, 41, 42, 43, 44]))
 (r [
 m 28 7,
 v 29 (p 28 1),
 m 7 29] [28, 29]))))))
 (s (r [
 m 45 6,
 m 4 45,
 i 5 0] [45])
 .ret)))))⟩
theorem H.q2i : Has P F.q2i C.q2i := ⟨Tryz.f147, Tryz.func147, by kernel_rfl, by kernel_rfl⟩
noncomputable def C.q2s : MFunc := ⟨5, 1, [.tmp 2],
 (s (r [
 b 2 false] [])
 (s (r [
 m 3 0,
 f 4 F.q23 [(t 3), (c 1000)],
 m 2 4] [3, 4])
 .ret))⟩
theorem H.q2s : Has P F.q2s C.q2s := ⟨Tryz.f148, Tryz.func148, by kernel_rfl, by kernel_rfl⟩
noncomputable def C.q21 : MFunc := ⟨15, 2, [.cell 4 32 true],
 (s (r [
 ⟨some 4, none, .alloc T.apiDigest (o ([]))⟩] [])
 (s (r [
 m 6 0,
 ⟨some 7, none, .bytes (t 6)⟩,
 f 8 F.q2v [(t 7)],
 ⟨some 5, none, .alloc T.apiDigest (o ([]))⟩,
 y 32 5 8] [6, 7, 8])
 (s (r [
 v 9 (.buildSlice T.uint8 0 [] []),
 v 10 (.sliceArr 32 1 (t 5) none none none),
 ⟨some 11, none, .append T.uint8 1 1 (t 9) (t 10)⟩,
 m 12 1,
 ⟨some 13, none, .append T.uint8 1 1 (t 11) (t 12)⟩,
 f 14 F.q2v [(t 13)],
 y 32 4 14] [9, 10, 11, 12, 13, 14])
 .ret)))⟩
theorem H.q21 : Has P F.q21 C.q21 := ⟨Tryz.f149, Tryz.func149, by kernel_rfl, by kernel_rfl⟩
noncomputable def C.q3n : MFunc := ⟨102, 6, [.tmp 12],
 (s (r [
 ⟨some 11, none, .box T.apiDigest (t 5)⟩,
 v 12 (.mv (.const .nil))] [])
 (s (r [
 v 23 (.buildSlice T.uint8 0 [] []),
 m 13 23] [23])
 (s (s (r [
 i 14 0] [])
 (.block 0 (.loop (s (s (r [
 m 24 14,
 v 25 (.bin .lss T.int (t 24) (c 32))] [24])
 (d 25
 .skip
 (.exit 0)))
 (s (.block 1 (r [
 m 28 13,
 m 29 14,
 v 30 (.indexArr 32 1 (t 11) (t 29)),
 l 31 30,
 v 32 (.buildSlice T.uint8 1 [(.val (.int .u8 0))] [(0, 1, (t 31))]),
 ⟨some 33, none, .append T.uint8 1 1 (t 28) (t 32)⟩,
 m 13 33] [28, 29, 30, 31, 32, 33]))
 (r [
 m 26 14,
 v 27 (p 26 1),
 m 14 27] [26, 27]))))))
 (s (r [
 ⟨some 34, none, .val (.build [(.int 0), (.int 0), (.val (.string ⟨#[]⟩)), .nil] [(0, 1, (c 1))])⟩,
 ⟨some 15, none, .alloc T.apiValue [(.int 0), (.int 0), (.val (.string ⟨#[]⟩)), .nil]⟩,
 y 4 15 34] [34])
 (s (r [
 L 35 4 15,
 L 36 4 15,
 L 37 4 15,
 ⟨some 38, none, .val (.buildSlice T.apiValue 3 [(.int 0), (.int 0), (.val (.string ⟨#[]⟩)), .nil, (.int 0), (.int 0), (.val (.string ⟨#[]⟩)), .nil, (.int 0), (.int 0), (.val (.string ⟨#[]⟩)), .nil] [(0, 4, (t 35)), (4, 4, (t 36)), (8, 4, (t 37))])⟩,
 m 16 38] [35, 36, 37, 38])
 (s (r [
 m 39 16,
 m 40 0,
 v 41 (.indexAddr 4 (t 39) (c 0)),
 g 42 1 41,
 y 1 42 40] [39, 40, 41, 42])
 (s (r [
 m 43 16,
 m 44 1,
 v 45 (.indexAddr 4 (t 43) (c 1)),
 g 46 1 45,
 y 1 46 44] [43, 44, 45, 46])
 (s (r [
 m 47 16,
 m 48 2,
 v 49 (.indexAddr 4 (t 47) (c 2)),
 g 50 1 49,
 y 1 50 48] [47, 48, 49, 50])
 (s (r [
 ⟨some 51, none, .val (.build [(.int 0), (.int 0), (.val (.string ⟨#[]⟩)), .nil] [(0, 1, (c 3))])⟩,
 ⟨some 17, none, .alloc T.apiValue [(.int 0), (.int 0), (.val (.string ⟨#[]⟩)), .nil]⟩,
 y 4 17 51] [51])
 (s (s (r [
 i 18 0] [])
 (.block 2 (.loop (s (s (r [
 m 52 18,
 m 53 3,
 v 54 (n 53),
 v 55 (A 52 54)] [52, 53, 54])
 (d 55
 .skip
 (.exit 2)))
 (s (.block 3 (s (r [
 m 58 3,
 m 59 18,
 v 60 (I 1 58 59),
 l 61 60,
 g 62 1 15,
 y 1 62 61] [58, 59, 60, 61, 62])
 (r [
 g 63 3 17,
 l 64 63,
 L 65 4 15,
 ⟨some 66, none, .val (.buildSlice T.apiValue 1 [(.int 0), (.int 0), (.val (.string ⟨#[]⟩)), .nil] [(0, 4, (t 65))])⟩,
 ⟨some 67, none, .append T.apiValue 56 4 (t 64) (t 66)⟩,
 g 68 3 17,
 y 1 68 67] [63, 64, 65, 66, 67, 68])))
 (r [
 m 56 18,
 v 57 (p 56 1),
 m 18 57] [56, 57]))))))
 (s (r [
 ⟨some 69, none, .val (.build [(.int 0), (.int 0), (.val (.string ⟨#[]⟩)), .nil] [(0, 1, (c 3))])⟩,
 ⟨some 19, none, .alloc T.apiValue [(.int 0), (.int 0), (.val (.string ⟨#[]⟩)), .nil]⟩,
 y 4 19 69] [69])
 (s (s (r [
 i 20 0] [])
 (.block 4 (.loop (s (s (r [
 m 70 20,
 m 71 4,
 v 72 (n 71),
 v 73 (A 70 72)] [70, 71, 72])
 (d 73
 .skip
 (.exit 4)))
 (s (.block 5 (s (r [
 m 76 4,
 m 77 20,
 v 78 (I 1 76 77),
 l 79 78,
 g 80 1 15,
 y 1 80 79] [76, 77, 78, 79, 80])
 (r [
 g 81 3 19,
 l 82 81,
 L 83 4 15,
 ⟨some 84, none, .val (.buildSlice T.apiValue 1 [(.int 0), (.int 0), (.val (.string ⟨#[]⟩)), .nil] [(0, 4, (t 83))])⟩,
 ⟨some 85, none, .append T.apiValue 56 4 (t 82) (t 84)⟩,
 g 86 3 19,
 y 1 86 85] [81, 82, 83, 84, 85, 86])))
 (r [
 m 74 20,
 v 75 (p 74 1),
 m 20 75] [74, 75]))))))
 (s (r [
 m 87 16,
 L 88 4 17,
 L 89 4 19,
 m 90 13,
 v 91 (.strOf (t 90)),
 ⟨some 92, none, .val (.build [(.int 0), (.int 0), (.val (.string ⟨#[]⟩)), .nil] [(0, 1, (c 2)), (2, 1, (t 91))])⟩,
 ⟨some 93, none, .val (.buildSlice T.apiValue 3 [(.int 0), (.int 0), (.val (.string ⟨#[]⟩)), .nil, (.int 0), (.int 0), (.val (.string ⟨#[]⟩)), .nil, (.int 0), (.int 0), (.val (.string ⟨#[]⟩)), .nil] [(0, 4, (t 88)), (4, 4, (t 89)), (8, 4, (t 92))])⟩,
 ⟨some 94, none, .append T.apiValue 56 4 (t 87) (t 93)⟩,
 m 16 94] [87, 88, 89, 90, 91, 92, 93, 94])
 (s (r [
 m 96 16,
 ⟨some 97, none, .val (.build [(.int 0), (.int 0), (.val (.string ⟨#[]⟩)), .nil] [(0, 1, (c 3)), (3, 1, (t 96))])⟩,
 f 98 F.q24 [(t 97)],
 m 95 98,
 x 99 0 95,
 x 100 1 95,
 m 21 99,
 m 22 100] [96, 97, 98, 95, 99, 100, 22])
 (s (r [
 m 101 21,
 m 12 101] [101])
 .ret)))))))))))))))⟩
theorem H.q3n : Has P F.q3n C.q3n := ⟨Tryz.f150, Tryz.func150, by kernel_rfl, by kernel_rfl⟩
noncomputable def C.q3u : MFunc := ⟨73, 2, [.tmp 4, .tmp 5],
 (s (r [
 i 4 0,
 i 5 0] [])
 (s (s (r [
 m 12 0,
 v 13 (n 12),
 v 14 (.bin .gtr T.int (t 13) (c 24))] [12, 13])
 (d 14
 (s (r [
 i 4 0,
 i 5 2] [])
 .ret)
 .skip))
 (s (s (r [
 m 15 0,
 f 16 F.q2y [(t 15)],
 v 17 (N 16)] [15, 16])
 (d 17
 (s (r [
 i 4 0,
 i 5 120] [])
 .ret)
 .skip))
 (s (r [
 i 6 0] [])
 (s (s (r [
 i 7 0] [])
 (.block 0 (.loop (s (s (r [
 m 18 7,
 m 19 0,
 v 20 (n 19),
 v 21 (A 18 20)] [18, 19, 20])
 (d 21
 .skip
 (.exit 0)))
 (s (.block 1 (s (r [
 m 24 0,
 m 25 7,
 v 26 (I 2 24 25),
 g 27 1 26,
 l 28 27,
 f 29 F.q00 [(t 28)],
 m 8 29] [24, 25, 26, 27, 28, 29])
 (s (s (r [
 i 9 0] [])
 (.block 2 (.loop (s (s (r [
 m 30 9,
 m 31 0,
 v 32 (n 31),
 v 33 (A 30 32)] [30, 31, 32])
 (d 33
 .skip
 (.exit 2)))
 (s (.block 3 (s (r [
 m 36 9,
 m 37 7,
 v 38 (.bin .neq T.int (t 36) (t 37))] [36, 37])
 (d 38
 (s (.draw true [
 a (m 40 0),
 a (m 41 7),
 a (v 42 (I 2 40 41)),
 a (g 43 0 42),
 a (l 44 43),
 e (m 45 0),
 e (m 46 9),
 e (v 47 (I 2 45 46)),
 e (g 48 0 47),
 e (l 49 48),
 h (f 50 F.q00 [(t 49)]),
 a (v 51 (.un .neg (t 50))),
 h (f 52 F.q3f [(t 44), (t 51)]),
 h (f 53 F.q2u [(t 52)]),
 a (m 39 53),
 a (x 54 0 39),
 a (x 55 1 39),
 a (m 10 54),
 a (m 11 55)] [40, 41, 42, 43, 44, 45, 46, 47, 48, 49, 50, 51, 52, 53, 39, 54, 55, 11])
 (r [
 m 56 8,
 m 57 1,
 m 58 0,
 m 59 9,
 v 60 (I 2 58 59),
 g 61 0 60,
 l 62 61,
 f 63 F.q00 [(t 62)],
 v 64 (.un .neg (t 63)),
 f 65 F.q3f [(t 57), (t 64)],
 m 66 10,
 f 67 F.q2w [(t 65), (t 66)],
 f 68 F.q2w [(t 56), (t 67)],
 m 8 68] [56, 57, 58, 59, 60, 61, 62, 63, 64, 65, 66, 67, 68]))
 .skip)))
 (r [
 m 34 9,
 v 35 (p 34 1),
 m 9 35] [34, 35]))))))
 (r [
 m 69 6,
 m 70 8,
 f 71 F.q3f [(t 69), (t 70)],
 m 6 71] [69, 70, 71]))))
 (r [
 m 22 7,
 v 23 (p 22 1),
 m 7 23] [22, 23]))))))
 (s (r [
 m 72 6,
 m 4 72,
 i 5 0] [72])
 .ret))))))⟩
theorem H.q3u : Has P F.q3u C.q3u := ⟨Tryz.f151, Tryz.func151, by kernel_rfl, by kernel_rfl⟩
noncomputable def C.q30 : MFunc := ⟨29, 3, [.tmp 6],
 (s (r [
 b 6 false] [])
 (s (r [
 m 7 0,
 v 8 (.bin .geq T.int (t 7) (c 0)),
 m 9 8,
 w 10 9 (M 0),
 w 11 9 (.bin .lss T.int (t 10) (c 8)),
 v 12 (k 9 11),
 m 13 12,
 w 14 13 (M 1),
 w 15 13 (.bin .geq T.int (t 14) (c 0)),
 v 16 (k 13 15),
 m 17 16,
 w 18 17 (M 1),
 w 19 17 (.bin .lss T.int (t 18) (c 4096)),
 v 20 (k 17 19),
 m 21 20,
 w 22 21 (M 2),
 w 23 21 (.bin .geq T.int (t 22) (c 0)),
 v 24 (k 21 23),
 m 25 24,
 w 26 25 (M 2),
 w 27 25 (.bin .lss T.int (t 26) (c 256)),
 v 28 (k 25 27),
 m 6 28] [7, 8, 9, 10, 11, 12, 13, 14, 15, 16, 17, 18, 19, 20, 21, 22, 23, 24, 25, 26, 27, 28])
 .ret))⟩
theorem H.q30 : Has P F.q30 C.q30 := ⟨Tryz.f152, Tryz.func152, by kernel_rfl, by kernel_rfl⟩
noncomputable def C.q22 : MFunc := ⟨5, 1, [.tmp 2],
 (s (r [
 b 2 false] [])
 (s (r [
 m 3 0,
 f 4 F.q23 [(t 3), (c 1073741788)],
 m 2 4] [3, 4])
 .ret))⟩
theorem H.q22 : Has P F.q22 C.q22 := ⟨Tryz.f153, Tryz.func153, by kernel_rfl, by kernel_rfl⟩
noncomputable def C.q04 : MFunc := ⟨19, 2, [.tmp 4],
 (s (r [
 i 4 0] [])
 (s (s (r [
 m 6 0,
 v 7 (n 6),
 i 8 0] [6])
 (.block 0 (.loop (s (r [
 v 9 (A 8 7)] [])
 (s (d 9
 .skip
 (.exit 0))
 (s (.block 1 (s (r [
 m 10 8,
 m 5 10] [10])
 (s (r [
 m 11 1,
 m 12 0,
 m 13 5,
 v 14 (I 1 12 13),
 l 15 14,
 ⟨some 16, none, .call (t 11) [(t 15)]⟩] [11, 12, 13, 14, 15])
 (d 16
 (s (r [
 m 17 5,
 m 4 17] [17])
 .ret)
 .skip))))
 (r [
 v 18 (p 8 1),
 m 8 18] [18])))))))
 (s (r [
 v 4 (.mv (.const (.int (-1))))] [])
 .ret)))⟩
theorem H.q04 : Has P F.q04 C.q04 := ⟨Tryz.f154, Tryz.func154, by kernel_rfl, by kernel_rfl⟩
noncomputable def C.q4z : MFunc := ⟨16, 1, [.tmp 2],
 (s (r [
 ⟨some 1, none, .box T.apiValue (t 0)⟩,
 i 2 0] [])
 (s (r [
 L 6 4 1,
 f 7 F.q1e [(t 6)],
 m 5 7,
 x 8 0 5,
 x 9 1 5,
 m 3 8,
 m 4 9] [6, 7, 5, 8, 9])
 (s (.block 0 (s (r [
 m 11 4,
 v 12 (N 11),
 m 10 12] [11, 12])
 (d 10
 (s (r [
 i 2 1] [])
 .ret)
 (s (r [
 m 14 3,
 v 15 (.bin .gtr T.int (t 14) (c 16)),
 m 13 15] [14, 15])
 (d 13
 (s (r [
 i 2 2] [])
 .ret)
 .skip)))))
 (s (r [
 i 2 0] [])
 .ret))))⟩
theorem H.q4z : Has P F.q4z C.q4z := ⟨Tryz.f155, Tryz.func155, by kernel_rfl, by kernel_rfl⟩
noncomputable def C.q4f : MFunc := ⟨18, 0, [.tmp 0],
 (s (r [
 v 0 (.mv (.const (.val (.pointer none))))] [])
 (s (r [
 v 2 (.build [(.val .nilFunc), (.val .nilFunc), (.val .nilFunc), (.val .nilFunc)] []),
 ⟨some 3, none, .box T.q5c (t 2)⟩,
 ⟨some 1, none, .alloc T.codecwriter [(.val (.pointer none))]⟩,
 y 1 1 3] [2, 3])
 (s (r [
 l 4 1,
 v 5 (.nilCheck (t 4)),
 v 6 (.indexArr 4 1 (t 5) (c 1)),
 g 7 0 6,
 ⟨none, none, .store 1 (t 7) (.const (.func (.func F.q3b) [] []))⟩] [4, 5, 6, 7])
 (s (r [
 l 8 1,
 v 9 (.nilCheck (t 8)),
 v 10 (.indexArr 4 1 (t 9) (c 2)),
 g 11 0 10,
 ⟨none, none, .store 1 (t 11) (.const (.func (.func F.q3c) [] []))⟩] [8, 9, 10, 11])
 (s (r [
 l 12 1,
 v 13 (.mkFunc (.func F.q2t) [] [(t 1)]),
 v 14 (.nilCheck (t 12)),
 v 15 (.indexArr 4 1 (t 14) (c 3)),
 g 16 0 15,
 y 1 16 13] [12, 13, 14, 15, 16])
 (s (r [
 l 17 1,
 m 0 17] [17])
 .ret))))))⟩
theorem H.q4f : Has P F.q4f C.q4f := ⟨Tryz.f156, Tryz.func156, by kernel_rfl, by kernel_rfl⟩
noncomputable def C.q4k : MFunc := ⟨69, 1, [.cell 2 32 true],
 (s (r [
 ⟨some 2, none, .alloc T.apiDigest (o ([]))⟩] [])
 (s (r [
 ⟨some 9, none, .val (.load 8 true (.const (.val (.pointer (some ⟨0, 0, none⟩)))))⟩,
 ⟨some 3, none, .alloc T.digeststate [(.val (.int .u32 0)), (.val (.int .u32 0)), (.val (.int .u32 0)), (.val (.int .u32 0)), (.val (.int .u32 0)), (.val (.int .u32 0)), (.val (.int .u32 0)), (.val (.int .u32 0))]⟩,
 y 8 3 9] [9])
 (s (r [
 v 10 (.mkFunc (.func F.q01) [(t 3)] []),
 m 4 10] [10])
 (s (r [
 m 11 0,
 m 5 11] [11])
 (s (.block 0 (.loop (s (s (r [
 m 12 5,
 v 13 (n 12),
 v 14 (.bin .geq T.int (t 13) (c 64))] [12, 13])
 (d 14
 .skip
 (.exit 0)))
 (s (.block 1 (r [
 m 17 4,
 m 18 5,
 v 19 (.slice 1 (t 18) none (some (c 64)) none),
 ⟨some 20, none, .call (t 17) [(t 19)]⟩] [17, 18, 19, 20]))
 (r [
 m 15 5,
 v 16 (.slice 1 (t 15) (some (c 64)) none none),
 m 5 16] [15, 16])))))
 (s (r [
 ⟨some 21, none, .mkSlice T.uint8 1 1 [(.val (.int .u8 0))] (c 64) (c 128)⟩,
 m 6 21] [21])
 (s (r [
 m 22 6,
 m 23 5,
 ⟨some 24, none, .copy 1 (t 22) (t 23)⟩] [22, 23, 24])
 (s (r [
 m 25 6,
 m 26 5,
 v 27 (n 26),
 v 28 (I 1 25 27),
 ⟨none, none, .store 1 (t 28) (.const (.val (.int .u8 128)))⟩] [25, 26, 27, 28])
 (s (s (r [
 m 29 5,
 v 30 (n 29),
 v 31 (.bin .gtr T.int (t 30) (c 55))] [29, 30])
 (d 31
 (r [
 m 32 6,
 v 33 (.slice 1 (t 32) none (some (c 128)) none),
 m 6 33] [32, 33])
 .skip))
 (s (r [
 m 34 6,
 m 35 6,
 v 36 (n 35),
 v 37 (.bin .sub T.int (t 36) (c 8)),
 v 38 (.slice 1 (t 34) (some (t 37)) none none),
 m 39 0,
 v 40 (n 39),
 v 41 (.toInt .u64 (t 40)),
 v 42 (.bin .mul T.uint64 (t 41) (.const (.val (.int .u64 8)))),
 f 43 F.q3y [(t 38), (t 42)]] [34, 35, 36, 37, 38, 39, 40, 41, 42, 43])
 (s (.block 2 (.loop (s (s (r [
 m 44 6,
 v 45 (n 44),
 v 46 (.bin .gtr T.int (t 45) (c 0))] [44, 45])
 (d 46
 .skip
 (.exit 2)))
 (s (.block 3 (r [
 m 49 4,
 m 50 6,
 v 51 (.slice 1 (t 50) none (some (c 64)) none),
 ⟨some 52, none, .call (t 49) [(t 51)]⟩] [49, 50, 51, 52]))
 (r [
 m 47 6,
 v 48 (.slice 1 (t 47) (some (c 64)) none none),
 m 6 48] [47, 48])))))
 (s (s (r [
 L 53 8 3,
 i 54 0] [])
 (.block 4 (.loop (s (r [
 v 55 (.bin .lss T.int (t 54) (c 8))] [])
 (s (d 55
 .skip
 (.exit 4))
 (s (.block 5 (s (r [
 m 56 54,
 v 57 (.index 8 1 false (t 53) (t 54)),
 m 7 56,
 m 8 57] [56, 57])
 (r [
 m 58 7,
 v 59 (.bin .mul T.int (c 4) (t 58)),
 m 60 7,
 v 61 (.bin .mul T.int (c 4) (t 60)),
 v 62 (p 61 4),
 v 63 (.sliceArr 32 1 (t 2) (some (t 59)) (some (t 62)) none),
 m 64 8,
 v 65 (.toInt .u64 (t 64)),
 f 66 F.q3y [(t 63), (t 65)]] [58, 59, 60, 61, 62, 63, 64, 65, 66])))
 (r [
 v 67 (p 54 1),
 m 54 67] [67])))))))
 (s (r [
 L 68 32 2,
 y 32 2 68] [68])
 .ret)))))))))))))⟩
theorem H.q4k : Has P F.q4k C.q4k := ⟨Tryz.f157, Tryz.func157, by kernel_rfl, by kernel_rfl⟩
noncomputable def C.q16 : MFunc := ⟨36, 1, [.tmp 2],
 (s (r [
 v 2 (.mv (.const .nil))] [])
 (s (r [
 i 3 0] [])
 (s (s (r [
 m 9 0,
 v 10 (n 9),
 i 11 0] [])
 (.block 0 (.loop (s (r [
 v 12 (A 11 10)] [])
 (s (d 12
 .skip
 (.exit 0))
 (s (.block 1 (s (r [
 v 13 (I 1 9 11),
 l 14 13,
 m 5 14] [13, 14])
 (s (r [
 m 15 3,
 m 16 5,
 v 17 (n 16),
 v 18 (.bin .add T.int (t 15) (t 17)),
 m 3 18] [15, 16, 17, 18])
 (s (r [
 m 19 3,
 v 20 (.bin .lss T.int (t 19) (c 0))] [19])
 (d 20
 (r [
 ⟨some 21, none, .val (.mkIface T.string (.const (.val (.string ⟨#[108, 101, 110, 32, 111, 117, 116, 32, 111, 102, 32, 114, 97, 110, 103, 101]⟩))))⟩,
 ⟨none, none, .panic (t 21)⟩] [21])
 .skip)))))
 (r [
 v 22 (p 11 1),
 m 11 22] [22])))))))
 (s (r [
 m 23 3,
 f 24 F.q2e [(.const .nil), (t 23)],
 m 6 24] [23, 24])
 (s (s (r [
 m 25 0,
 v 26 (n 25),
 i 27 0] [])
 (.block 2 (.loop (s (r [
 v 28 (A 27 26)] [])
 (s (d 28
 .skip
 (.exit 2))
 (s (.block 3 (s (r [
 v 29 (I 1 25 27),
 l 30 29,
 m 8 30] [29, 30])
 (r [
 m 31 6,
 m 32 8,
 ⟨some 33, none, .append T.uint8 1 1 (t 31) (t 32)⟩,
 m 6 33] [31, 32, 33])))
 (r [
 v 34 (p 27 1),
 m 27 34] [34])))))))
 (s (r [
 m 35 6,
 m 2 35] [35])
 .ret))))))⟩
theorem H.q16 : Has P F.q16 C.q16 := ⟨Tryz.f158, Tryz.func158, by kernel_rfl, by kernel_rfl⟩
noncomputable def C.q0v : MFunc := ⟨19, 2, [.tmp 4],
 (s (r [
 i 4 0] [])
 (s (s (r [
 m 6 0,
 v 7 (n 6),
 i 8 0] [6])
 (.block 0 (.loop (s (r [
 v 9 (A 8 7)] [])
 (s (d 9
 .skip
 (.exit 0))
 (s (.block 1 (s (r [
 m 10 8,
 m 5 10] [10])
 (s (r [
 m 11 1,
 m 12 0,
 m 13 5,
 v 14 (I 36 12 13),
 L 15 36 14,
 ⟨some 16, none, .call (t 11) [(t 15)]⟩] [11, 12, 13, 14, 15])
 (d 16
 (s (r [
 m 17 5,
 m 4 17] [17])
 .ret)
 .skip))))
 (r [
 v 18 (p 8 1),
 m 8 18] [18])))))))
 (s (r [
 v 4 (.mv (.const (.int (-1))))] [])
 .ret)))⟩
theorem H.q0v : Has P F.q0v C.q0v := ⟨Tryz.f159, Tryz.func159, by kernel_rfl, by kernel_rfl⟩
noncomputable def C.q17 : MFunc := ⟨9, 2, [.tmp 4],
 (s (r [
 b 4 false] [])
 (s (r [
 m 5 0,
 m 6 1,
 f 7 F.q2m [(t 5), (t 6)],
 v 8 (.bin .geq T.int (t 7) (c 0)),
 m 4 8] [5, 6, 7, 8])
 .ret))⟩
theorem H.q17 : Has P F.q17 C.q17 := ⟨Tryz.f160, Tryz.func160, by kernel_rfl, by kernel_rfl⟩
noncomputable def C.q0m : MFunc := ⟨19, 2, [.tmp 4],
 (s (r [
 i 4 0] [])
 (s (s (r [
 m 6 0,
 v 7 (n 6),
 i 8 0] [6])
 (.block 0 (.loop (s (r [
 v 9 (A 8 7)] [])
 (s (d 9
 .skip
 (.exit 0))
 (s (.block 1 (s (r [
 m 10 8,
 m 5 10] [10])
 (s (r [
 m 11 1,
 m 12 0,
 m 13 5,
 v 14 (I 4 12 13),
 L 15 4 14,
 ⟨some 16, none, .call (t 11) [(t 15)]⟩] [11, 12, 13, 14, 15])
 (d 16
 (s (r [
 m 17 5,
 m 4 17] [17])
 .ret)
 .skip))))
 (r [
 v 18 (p 8 1),
 m 8 18] [18])))))))
 (s (r [
 v 4 (.mv (.const (.int (-1))))] [])
 .ret)))⟩
theorem H.q0m : Has P F.q0m C.q0m := ⟨Tryz.f161, Tryz.func161, by kernel_rfl, by kernel_rfl⟩
noncomputable def C.q0w : MFunc := ⟨19, 2, [.tmp 4],
 (s (r [
 i 4 0] [])
 (s (s (r [
 m 6 0,
 v 7 (n 6),
 i 8 0] [6])
 (.block 0 (.loop (s (r [
 v 9 (A 8 7)] [])
 (s (d 9
 .skip
 (.exit 0))
 (s (.block 1 (s (r [
 m 10 8,
 m 5 10] [10])
 (s (r [
 m 11 1,
 m 12 0,
 m 13 5,
 v 14 (I 34 12 13),
 L 15 34 14,
 ⟨some 16, none, .call (t 11) [(t 15)]⟩] [11, 12, 13, 14, 15])
 (d 16
 (s (r [
 m 17 5,
 m 4 17] [17])
 .ret)
 .skip))))
 (r [
 v 18 (p 8 1),
 m 8 18] [18])))))))
 (s (r [
 v 4 (.mv (.const (.int (-1))))] [])
 .ret)))⟩
theorem H.q0w : Has P F.q0w C.q0w := ⟨Tryz.f162, Tryz.func162, by kernel_rfl, by kernel_rfl⟩
noncomputable def C.q23 : MFunc := ⟨33, 2, [.tmp 4],
 (s (r [
 b 4 false] [])
 (s (s (r [
 i 5 0] [])
 (.block 0 (.loop (s (s (r [
 m 6 5,
 m 7 0,
 v 8 (n 7),
 v 9 (A 6 8)] [6, 7, 8])
 (d 9
 .skip
 (.exit 0)))
 (s (.block 1 (s (r [
 m 12 0,
 m 13 5,
 v 14 (I 1 12 13),
 l 15 14,
 v 16 (.bin .lss T.int (t 15) (c 0)),
 m 17 16,
 z 18 17 (M 0),
 z 19 17 (M 5),
 z 20 17 (I 1 18 19),
 z 21 17 (D 20),
 z 22 17 (M 1),
 z 23 17 (.bin .gtr T.int (t 21) (t 22)),
 v 24 (j 17 23)] [12, 13, 14, 15, 16, 17, 18, 19, 20, 21, 22, 23])
 (d 24
 (s (r [
 b 4 false] [])
 .ret)
 .skip)))
 (r [
 m 10 5,
 v 11 (p 10 1),
 m 5 11] [10, 11]))))))
 (s (r [
 m 25 0,
 v 26 (n 25),
 v 27 (.bin .geq T.int (t 26) (c 1)),
 m 28 27,
 w 29 28 (M 0),
 w 30 28 (n 29),
 w 31 28 (.bin .leq T.int (t 30) (c 64)),
 v 32 (k 28 31),
 m 4 32] [25, 26, 27, 28, 29, 30, 31, 32])
 .ret)))⟩
theorem H.q23 : Has P F.q23 C.q23 := ⟨Tryz.f169, Tryz.func169, by kernel_rfl, by kernel_rfl⟩
noncomputable def C.q2v : MFunc := ⟨42, 1, [.cell 2 32 true],
 (s (r [
 ⟨some 2, none, .alloc T.apiDigest (o ([]))⟩] [])
 (s (r [
 v 8 (.build [(.val (.int .u32 0)), (.val (.int .u32 0)), (.val (.int .u32 0)), (.val (.int .u32 0)), (.val (.int .u32 0)), (.val (.int .u32 0)), (.val (.int .u32 0)), (.val (.int .u32 0))] [(0, 1, (.const (.val (.int .u32 1779033703)))), (1, 1, (.const (.val (.int .u32 3144134277)))), (2, 1, (.const (.val (.int .u32 1013904242)))), (3, 1, (.const (.val (.int .u32 2773480762)))), (4, 1, (.const (.val (.int .u32 1359893119)))), (5, 1, (.const (.val (.int .u32 2600822924)))), (6, 1, (.const (.val (.int .u32 528734635)))), (7, 1, (.const (.val (.int .u32 1541459225))))]),
 ⟨some 3, none, .alloc T.t8uint32 [(.val (.int .u32 0)), (.val (.int .u32 0)), (.val (.int .u32 0)), (.val (.int .u32 0)), (.val (.int .u32 0)), (.val (.int .u32 0)), (.val (.int .u32 0)), (.val (.int .u32 0))]⟩,
 y 8 3 8] [8])
 (s (r [
 m 9 0,
 f 10 F.q3v [(t 9)],
 m 4 10] [9, 10])
 (s (s (r [
 i 5 0] [])
 (.block 0 (.loop (s (s (r [
 m 11 5,
 m 12 4,
 v 13 (n 12),
 v 14 (A 11 13)] [11, 12, 13])
 (d 14
 .skip
 (.exit 0)))
 (s (.block 1 (.draw false [
 e (L 17 8 3),
 e (m 18 4),
 e (m 19 5),
 e (m 20 5),
 e (v 21 (p 20 64)),
 e (v 22 (.slice 1 (t 18) (some (t 19)) (some (t 21)) none)),
 h (f 23 F.q31 [(t 17), (t 22)]),
 (.last, y 8 3 23)] [17, 18, 19, 20, 21, 22, 23]))
 (r [
 m 15 5,
 v 16 (p 15 64),
 m 5 16] [15, 16]))))))
 (s (r [
 v 24 (.build (o ([])) []),
 ⟨some 6, none, .alloc T.apiDigest (o ([]))⟩,
 y 32 6 24] [24])
 (s (s (r [
 i 7 0] [])
 (.block 2 (.loop (s (s (r [
 m 25 7,
 v 26 (.bin .lss T.int (t 25) (c 32))] [25])
 (d 26
 .skip
 (.exit 2)))
 (s (.block 3 (r [
 m 29 7,
 m 30 7,
 v 31 (.bin .quo T.int (t 30) (c 4)),
 v 32 (.indexArr 8 1 (t 3) (t 31)),
 l 33 32,
 m 34 7,
 v 35 (.bin .rem T.int (t 34) (c 4)),
 v 36 (.bin .mul T.int (c 8) (t 35)),
 v 37 (.bin .sub T.int (c 24) (t 36)),
 v 38 (.bin .shr T.uint32 (t 33) (t 37)),
 v 39 (.toInt .u8 (t 38)),
 v 40 (.indexArr 32 1 (t 6) (t 29)),
 y 1 40 39] [29, 30, 31, 32, 33, 34, 35, 36, 37, 38, 39, 40]))
 (r [
 m 27 7,
 v 28 (p 27 1),
 m 7 28] [27, 28]))))))
 (s (r [
 L 41 32 6,
 y 32 2 41] [41])
 .ret)))))))⟩
theorem H.q2v : Has P F.q2v C.q2v := ⟨Tryz.f170, Tryz.func170, by kernel_rfl, by kernel_rfl⟩
noncomputable def C.q24 : MFunc := ⟨12, 1, [.tmp 2, .tmp 3],
 (s (r [
 ⟨some 1, none, .box T.apiValue (t 0)⟩,
 v 2 (.mv (.const .nil)),
 i 3 0] [])
 (s (r [
 L 5 4 1,
 f 6 F.q3d [(t 5)],
 m 4 6] [5, 6])
 (s (s (r [
 m 7 4,
 v 8 (.bin .neq T.apiErrno (t 7) (c 0))] [7])
 (d 8
 (s (r [
 m 9 4,
 v 2 (.mv (.const .nil)),
 m 3 9] [9])
 .ret)
 .skip))
 (s (r [
 L 10 4 1,
 f 11 F.q0k [(t 10)],
 m 2 11,
 i 3 0] [10, 11])
 .ret))))⟩
theorem H.q24 : Has P F.q24 C.q24 := ⟨Tryz.f171, Tryz.func171, by kernel_rfl, by kernel_rfl⟩
noncomputable def C.q2y : MFunc := ⟨29, 1, [.tmp 2],
 (s (r [
 b 2 false] [])
 (s (s (r [
 i 3 0] [])
 (.block 0 (.loop (s (s (r [
 m 5 3,
 m 6 0,
 v 7 (n 6),
 v 8 (A 5 7)] [5, 6, 7])
 (d 8
 .skip
 (.exit 0)))
 (s (.block 1 (s (r [
 i 4 0] [])
 (.block 2 (.loop (s (s (r [
 m 11 4,
 m 12 3,
 v 13 (A 11 12)] [11, 12])
 (d 13
 .skip
 (.exit 2)))
 (s (.block 3 (s (.draw true [
 e (m 16 0),
 e (m 17 3),
 e (v 18 (I 2 16 17)),
 e (g 19 0 18),
 e (l 20 19),
 a (m 22 0),
 a (m 23 4),
 a (v 24 (I 2 22 23)),
 a (g 25 0 24),
 a (l 26 25),
 h (f 21 F.q00 [(t 20)]),
 h (f 27 F.q00 [(t 26)]),
 a (v 28 (B 21 27))] [16, 17, 18, 19, 20, 21, 22, 23, 24, 25, 26, 27])
 (d 28
 (s (r [
 b 2 false] [])
 .ret)
 .skip)))
 (r [
 m 14 4,
 v 15 (p 14 1),
 m 4 15] [14, 15])))))))
 (r [
 m 9 3,
 v 10 (p 9 1),
 m 3 10] [9, 10]))))))
 (s (r [
 b 2 true] [])
 .ret)))⟩
theorem H.q2y : Has P F.q2y C.q2y := ⟨Tryz.f172, Tryz.func172, by kernel_rfl, by kernel_rfl⟩
noncomputable def C.q00 : MFunc := ⟨10, 1, [.tmp 2],
 (s (r [
 i 2 0] [])
 (s (r [
 m 3 0,
 v 4 (.bin .rem T.int (t 3) (c 1073741789)),
 m 0 4] [3, 4])
 (s (s (r [
 m 5 0,
 v 6 (.bin .lss T.int (t 5) (c 0))] [5])
 (d 6
 (r [
 m 7 0,
 v 8 (p 7 1073741789),
 m 0 8] [7, 8])
 .skip))
 (s (r [
 m 9 0,
 m 2 9] [9])
 .ret))))⟩
theorem H.q00 : Has P F.q00 C.q00 := ⟨Tryz.f173, Tryz.func173, by kernel_rfl, by kernel_rfl⟩
noncomputable def C.q2u : MFunc := ⟨9, 1, [.tmp 2, .tmp 3],
 (s (r [
 i 2 0,
 i 3 0] [])
 (s (s (r [
 m 4 0,
 f 5 F.q00 [(t 4)],
 v 6 (.bin .eql T.int (t 5) (c 0))] [4, 5])
 (d 6
 (s (r [
 i 2 0,
 i 3 120] [])
 .ret)
 .skip))
 (s (r [
 m 7 0,
 f 8 F.q32 [(t 7), (c 1073741787)],
 m 2 8,
 i 3 0] [7, 8])
 .ret)))⟩
theorem H.q2u : Has P F.q2u C.q2u := ⟨Tryz.f174, Tryz.func174, by kernel_rfl, by kernel_rfl⟩
noncomputable def C.q3f : MFunc := ⟨11, 2, [.tmp 4],
 (s (r [
 i 4 0] [])
 (s (r [
 m 5 0,
 f 6 F.q00 [(t 5)],
 m 7 1,
 f 8 F.q00 [(t 7)],
 v 9 (.bin .add T.int (t 6) (t 8)),
 v 10 (.bin .rem T.int (t 9) (c 1073741789)),
 m 4 10] [5, 6, 7, 8, 9, 10])
 .ret))⟩
theorem H.q3f : Has P F.q3f C.q3f := ⟨Tryz.f175, Tryz.func175, by kernel_rfl, by kernel_rfl⟩
noncomputable def C.q2w : MFunc := ⟨11, 2, [.tmp 4],
 (s (r [
 i 4 0] [])
 (s (r [
 m 5 0,
 f 6 F.q00 [(t 5)],
 m 7 1,
 f 8 F.q00 [(t 7)],
 v 9 (.bin .mul T.int (t 6) (t 8)),
 v 10 (.bin .rem T.int (t 9) (c 1073741789)),
 m 4 10] [5, 6, 7, 8, 9, 10])
 .ret))⟩
theorem H.q2w : Has P F.q2w C.q2w := ⟨Tryz.f176, Tryz.func176, by kernel_rfl, by kernel_rfl⟩
noncomputable def C.q1e : MFunc := ⟨74, 1, [.tmp 2, .tmp 3],
 (s (r [
 ⟨some 1, none, .box T.apiValue (t 0)⟩,
 i 2 0,
 b 3 false] [])
 (s (r [
 g 9 2 1,
 l 10 9,
 ⟨some 11, none, .val (.bin .eql T.string (t 10) (.const (.val (.string ⟨#[]⟩))))⟩,
 m 12 11,
 w 13 12 (G 3 1),
 w 14 12 (D 13),
 w 15 12 (n 14),
 w 16 12 (.bin .eql T.int (t 15) (c 0)),
 v 17 (k 12 16),
 g 18 1 1,
 l 19 18,
 v 20 (.bin .eql T.int (t 19) (c 0)),
 m 21 20,
 w 22 21 (G 3 1),
 w 23 21 (D 22),
 w 24 21 (n 23),
 w 25 21 (.bin .eql T.int (t 24) (c 0)),
 v 26 (k 21 25),
 g 27 1 1,
 l 28 27,
 v 29 (.bin .eql T.int (t 28) (c 0)),
 m 30 29,
 w 31 30 (G 2 1),
 w 32 30 (D 31),
 ⟨some 33, some (30, true), .val (.bin .eql T.string (t 32) (.const (.val (.string ⟨#[]⟩))))⟩,
 v 34 (k 30 33),
 v 35 (.build [(.bool false), (.bool false), (.bool false), (.bool false)] [(1, 1, (t 17)), (2, 1, (t 26)), (3, 1, (t 34))]),
 ⟨some 4, none, .alloc T.t4bool [(.bool false), (.bool false), (.bool false), (.bool false)]⟩,
 y 4 4 35] [9, 10, 11, 12, 13, 14, 15, 16, 17, 18, 19, 20, 21, 22, 23, 24, 25, 26, 27, 28, 29, 30, 31, 32, 33, 34, 35])
 (s (s (r [
 g 36 0 1,
 l 37 36,
 v 38 (.bin .lss T.int (t 37) (c 1)),
 m 39 38,
 z 40 39 (G 0 1),
 z 41 39 (D 40),
 z 42 39 (.bin .gtr T.int (t 41) (c 3)),
 v 43 (j 39 42),
 m 44 43,
 z 45 44 (G 0 1),
 z 46 44 (D 45),
 z 47 44 (.indexArr 4 1 (t 4) (t 46)),
 z 48 44 (D 47),
 z 49 44 (N 48),
 v 50 (j 44 49)] [36, 37, 38, 39, 40, 41, 42, 43, 44, 45, 46, 47, 48, 49])
 (d 50
 (s (r [
 i 2 0,
 b 3 false] [])
 .ret)
 .skip))
 (s (s (r [
 g 51 0 1,
 l 52 51,
 v 53 (.bin .lss T.int (t 52) (c 3))] [51, 52])
 (d 53
 (s (r [
 i 2 0,
 b 3 true] [])
 .ret)
 .skip))
 (s (s (r [
 g 54 3 1,
 l 55 54,
 v 56 (n 55),
 i 57 0] [54])
 (.block 0 (.loop (s (r [
 v 58 (A 57 56)] [])
 (s (d 58
 .skip
 (.exit 0))
 (s (.block 1 (s (r [
 v 59 (I 4 55 57),
 L 60 4 59,
 ⟨some 6, none, .alloc T.apiValue [(.int 0), (.int 0), (.val (.string ⟨#[]⟩)), .nil]⟩,
 y 4 6 60] [59, 60])
 (s (r [
 L 62 4 6,
 f 63 F.q1e [(t 62)],
 m 61 63,
 x 64 0 61,
 x 65 1 61,
 m 7 64,
 m 8 65] [62, 63, 61, 64, 65])
 (s (s (r [
 m 66 8,
 v 67 (N 66)] [66])
 (d 67
 (s (r [
 i 2 0,
 b 3 false] [])
 .ret)
 .skip))
 (r [
 m 68 2,
 m 69 7,
 v 70 (.minmax true [(t 68), (t 69)]),
 m 2 70] [68, 69, 70])))))
 (r [
 v 71 (p 57 1),
 m 57 71] [71])))))))
 (s (r [
 m 72 2,
 v 73 (p 72 1),
 m 2 73,
 b 3 true] [72, 73])
 .ret))))))⟩
theorem H.q1e : Has P F.q1e C.q1e := ⟨Tryz.f177, Tryz.func177, by kernel_rfl, by kernel_rfl⟩
noncomputable def C.q3b : MFunc := ⟨12, 2, [.tmp 4],
 (s (r [
 ⟨some 3, none, .box T.apiValue (t 1)⟩,
 v 4 (.mv (.const .nil))] [])
 (s (.draw true [
 e (m 5 0),
 e (v 6 (.buildSlice T.uint8 1 [(.val (.int .u8 0))] [(0, 1, (.const (.val (.int .u8 1))))])),
 a (g 8 1 3),
 a (l 9 8),
 h (⟨some 7, none, .append T.uint8 1 1 (t 5) (t 6)⟩),
 h (f 10 F.q4o [(t 9)]),
 h (f 11 F.q34 [(t 7), (t 10)]),
 a (m 4 11)] [5, 6, 7, 8, 9, 10, 11])
 .ret))⟩
theorem H.q3b : Has P F.q3b C.q3b := ⟨Tryz.f178, Tryz.func178, by kernel_rfl, by kernel_rfl⟩
noncomputable def C.q34 : MFunc := ⟨20, 2, [.tmp 4],
 (s (r [
 v 4 (.mv (.const .nil))] [])
 (s (.block 0 (.loop (s (s (r [
 m 5 1,
 v 6 (.bin .geq T.uint64 (t 5) (.const (.val (.int .u64 128))))] [5])
 (d 6
 .skip
 (.exit 0)))
 (s (.block 1 (r [
 m 9 0,
 m 10 1,
 v 11 (.toInt .u8 (t 10)),
 v 12 (.bin .or T.uint8 (t 11) (.const (.val (.int .u8 128)))),
 v 13 (.buildSlice T.uint8 1 [(.val (.int .u8 0))] [(0, 1, (t 12))]),
 ⟨some 14, none, .append T.uint8 1 1 (t 9) (t 13)⟩,
 m 0 14] [9, 10, 11, 12, 13, 14]))
 (r [
 m 7 1,
 v 8 (.bin .shr T.uint64 (t 7) (.const (.val (.int .u64 7)))),
 m 1 8] [7, 8])))))
 (s (r [
 m 15 0,
 m 16 1,
 v 17 (.toInt .u8 (t 16)),
 v 18 (.buildSlice T.uint8 1 [(.val (.int .u8 0))] [(0, 1, (t 17))]),
 ⟨some 19, none, .append T.uint8 1 1 (t 15) (t 18)⟩,
 m 4 19] [15, 16, 17, 18, 19])
 .ret)))⟩
theorem H.q34 : Has P F.q34 C.q34 := ⟨Tryz.f179, Tryz.func179, by kernel_rfl, by kernel_rfl⟩
noncomputable def C.q4o : MFunc := ⟨10, 1, [.tmp 2],
 (s (r [
 v 2 (.mv (.const (.val (.int .u64 0))))] [])
 (s (r [
 m 3 0,
 v 4 (.toInt .u64 (t 3)),
 v 5 (.bin .shl T.uint64 (t 4) (.const (.val (.int .u64 1)))),
 m 6 0,
 v 7 (.bin .shr T.int (t 6) (.const (.val (.int .u64 63)))),
 v 8 (.toInt .u64 (t 7)),
 v 9 (.bin .xor T.uint64 (t 5) (t 8)),
 m 2 9] [3, 4, 5, 6, 7, 8, 9])
 .ret))⟩
theorem H.q4o : Has P F.q4o C.q4o := ⟨Tryz.f180, Tryz.func180, by kernel_rfl, by kernel_rfl⟩
noncomputable def C.q3c : MFunc := ⟨16, 2, [.tmp 4],
 (s (r [
 ⟨some 3, none, .box T.apiValue (t 1)⟩,
 v 4 (.mv (.const .nil))] [])
 (s (.draw true [
 e (m 5 0),
 e (v 6 (.buildSlice T.uint8 1 [(.val (.int .u8 0))] [(0, 1, (.const (.val (.int .u8 2))))])),
 a (g 8 2 3),
 a (l 9 8),
 a (v 10 (.strlen (t 9))),
 a (v 11 (.toInt .u64 (t 10))),
 a (g 13 2 3),
 a (l 14 13),
 h (⟨some 7, none, .append T.uint8 1 1 (t 5) (t 6)⟩),
 h (f 12 F.q34 [(t 7), (t 11)]),
 h (⟨some 15, none, .append T.uint8 1 1 (t 12) (t 14)⟩),
 a (m 4 15)] [5, 6, 7, 8, 9, 10, 11, 12, 13, 14, 15])
 .ret))⟩
theorem H.q3c : Has P F.q3c C.q3c := ⟨Tryz.f181, Tryz.func181, by kernel_rfl, by kernel_rfl⟩
noncomputable def C.q2t : MFunc := ⟨35, 3, [.tmp 5],
 (s (r [
 ⟨some 4, none, .box T.apiValue (t 1)⟩,
 v 5 (.mv (.const .nil))] [])
 (s (.draw true [
 e (m 8 0),
 e (v 9 (.buildSlice T.uint8 1 [(.val (.int .u8 0))] [(0, 1, (.const (.val (.int .u8 3))))])),
 a (g 11 3 4),
 a (l 12 11),
 a (v 13 (n 12)),
 a (v 14 (.toInt .u64 (t 13))),
 h (⟨some 10, none, .append T.uint8 1 1 (t 8) (t 9)⟩),
 h (f 15 F.q34 [(t 10), (t 14)]),
 a (m 0 15)] [8, 9, 10, 11, 12, 13, 14, 15])
 (s (s (r [
 g 16 3 4,
 l 17 16,
 v 18 (n 17),
 i 19 0] [16])
 (.block 0 (.loop (s (r [
 v 20 (A 19 18)] [])
 (s (d 20
 .skip
 (.exit 0))
 (s (.block 1 (s (r [
 v 21 (I 4 17 19),
 L 22 4 21,
 ⟨some 7, none, .alloc T.apiValue [(.int 0), (.int 0), (.val (.string ⟨#[]⟩)), .nil]⟩,
 y 4 7 22] [21, 22])
 (.draw true [
 e (l 23 2),
 e (g 24 0 7),
 e (l 25 24),
 e (v 26 (.nilCheck (t 23))),
 e (v 27 (.indexArr 4 1 (t 26) (t 25))),
 e (g 28 0 27),
 e (l 29 28),
 e (m 30 0),
 e (L 31 4 7),
 h (⟨some 32, none, .call (t 29) [(t 30), (t 31)]⟩),
 a (m 0 32)] [23, 24, 25, 26, 27, 28, 29, 30, 31, 32])))
 (r [
 v 33 (p 19 1),
 m 19 33] [33])))))))
 (s (r [
 m 34 0,
 m 5 34] [34])
 .ret))))⟩
theorem H.q2t : Has P F.q2t C.q2t := ⟨Tryz.f182, Tryz.func182, by kernel_rfl, by kernel_rfl⟩
noncomputable def C.q01 : MFunc := ⟨144, 2, [],
 (s (r [
 ⟨some 4, none, .alloc T.t64uint32 ((.val (.int .u32 0)) :: (.val (.int .u32 0)) :: (.val (.int .u32 0)) :: (.val (.int .u32 0)) :: (.val (.int .u32 0)) :: (.val (.int .u32 0)) :: (.val (.int .u32 0)) :: (.val (.int .u32 0)) :: (.val (.int .u32 0)) :: (.val (.int .u32 0)) :: (.val (.int .u32 0)) :: (.val (.int .u32 0)) :: (.val (.int .u32 0)) :: (.val (.int .u32 0)) :: (.val (.int .u32 0)) :: (.val (.int .u32 0)) :: (.val (.int .u32 0)) :: (.val (.int .u32 0)) :: (.val (.int .u32 0)) :: (.val (.int .u32 0)) :: (.val (.int .u32 0)) :: (.val (.int .u32 0)) :: (.val (.int .u32 0)) :: (.val (.int .u32 0)) :: (.val (.int .u32 0)) :: (.val (.int .u32 0)) :: (.val (.int .u32 0)) :: (.val (.int .u32 0)) :: (.val (.int .u32 0)) :: (.val (.int .u32 0)) :: (.val (.int .u32 0)) :: (.val (.int .u32 0)) :: (.val (.int .u32 0)) :: (.val (.int .u32 0)) :: (.val (.int .u32 0)) :: (.val (.int .u32 0)) :: (.val (.int .u32 0)) :: (.val (.int .u32 0)) :: (.val (.int .u32 0)) :: (.val (.int .u32 0)) :: (.val (.int .u32 0)) :: (.val (.int .u32 0)) :: (.val (.int .u32 0)) :: (.val (.int .u32 0)) :: (.val (.int .u32 0)) :: (.val (.int .u32 0)) :: (.val (.int .u32 0)) :: (.val (.int .u32 0)) :: (.val (.int .u32 0)) :: (.val (.int .u32 0)) :: (.val (.int .u32 0)) :: (.val (.int .u32 0)) :: (.val (.int .u32 0)) :: (.val (.int .u32 0)) :: (.val (.int .u32 0)) :: (.val (.int .u32 0)) :: (.val (.int .u32 0)) :: (.val (.int .u32 0)) :: (.val (.int .u32 0)) :: (.val (.int .u32 0)) :: (.val (.int .u32 0)) :: (.val (.int .u32 0)) :: (.val (.int .u32 0)) :: (.val (.int .u32 0)) :: [])⟩] [])
 (s (s (r [
 i 14 0] [])
 (.block 0 (.loop (s (r [
 v 15 (.bin .lss T.int (t 14) (c 16))] [])
 (s (d 15
 .skip
 (.exit 0))
 (s (.block 1 (s (r [
 m 16 14,
 m 5 16] [16])
 (r [
 m 17 5,
 m 18 1,
 m 19 5,
 v 20 (.bin .mul T.int (c 4) (t 19)),
 v 21 (.slice 1 (t 18) (some (t 20)) none none),
 f 22 F.q4t [(t 21)],
 v 23 (.indexArr 64 1 (t 4) (t 17)),
 y 1 23 22] [17, 18, 19, 20, 21, 22, 23])))
 (r [
 v 24 (p 14 1),
 m 14 24] [24])))))))
 (s (s (r [
 i 6 16] [])
 (.block 2 (.loop (s (s (r [
 m 25 6,
 v 26 (.bin .lss T.int (t 25) (c 64))] [25])
 (d 26
 .skip
 (.exit 2)))
 (s (.block 3 (s (.draw false [
 e (m 29 6),
 e (v 30 (.bin .sub T.int (t 29) (c 15))),
 e (v 31 (.indexArr 64 1 (t 4) (t 30))),
 e (l 32 31),
 e (m 33 6),
 e (v 34 (.bin .sub T.int (t 33) (c 2))),
 e (v 35 (.indexArr 64 1 (t 4) (t 34))),
 e (l 36 35),
 e (m 7 32),
 e (m 8 36)] [29, 30, 31, 32, 33, 34, 35, 36])
 (.draw true [
 a (m 37 6),
 a (m 38 6),
 a (v 39 (.bin .sub T.int (t 38) (c 16))),
 a (v 40 (.indexArr 64 1 (t 4) (t 39))),
 a (l 41 40),
 e (m 42 7),
 a (m 44 7),
 a (m 47 7),
 a (v 48 (.bin .shr T.uint32 (t 47) (.const (.val (.int .u64 3))))),
 a (m 51 6),
 a (v 52 (.bin .sub T.int (t 51) (c 7))),
 a (v 53 (.indexArr 64 1 (t 4) (t 52))),
 a (l 54 53),
 a (m 56 8),
 a (m 58 8),
 a (m 61 8),
 a (v 62 (.bin .shr T.uint32 (t 61) (.const (.val (.int .u64 10))))),
 h (f 43 F.q0c [(t 42), (.const (.int (-7)))]),
 h (f 45 F.q0c [(t 44), (.const (.int (-18)))]),
 a (v 46 (.bin .xor T.uint32 (t 43) (t 45))),
 a (v 49 (.bin .xor T.uint32 (t 46) (t 48))),
 a (v 50 (.bin .add T.uint32 (t 41) (t 49))),
 a (v 55 (.bin .add T.uint32 (t 50) (t 54))),
 h (f 57 F.q0c [(t 56), (.const (.int (-17)))]),
 h (f 59 F.q0c [(t 58), (.const (.int (-19)))]),
 a (v 60 (.bin .xor T.uint32 (t 57) (t 59))),
 a (v 63 (.bin .xor T.uint32 (t 60) (t 62))),
 a (v 64 (.bin .add T.uint32 (t 55) (t 63))),
 a (v 65 (.indexArr 64 1 (t 4) (t 37))),
 (.last, y 1 65 64)] [37, 38, 39, 40, 41, 42, 43, 44, 45, 46, 47, 48, 49, 50, 51, 52, 53, 54, 55, 56, 57, 58, 59, 60, 61, 62, 63, 64, 65])))
 (r [
 m 27 6,
 v 28 (p 27 1),
 m 6 28] [27, 28]))))))
 (s (r [
 m 66 0,
 v 67 (.nilCheck (t 66)),
 L 68 8 67,
 ⟨some 9, none, .alloc T.digeststate [(.val (.int .u32 0)), (.val (.int .u32 0)), (.val (.int .u32 0)), (.val (.int .u32 0)), (.val (.int .u32 0)), (.val (.int .u32 0)), (.val (.int .u32 0)), (.val (.int .u32 0))]⟩,
 y 8 9 68] [66, 67, 68])
 (s (s (r [
 i 69 0] [])
 (.block 4 (.loop (s (r [
 v 70 (.bin .lss T.int (t 69) (c 64))] [])
 (s (d 70
 .skip
 (.exit 4))
 (s (.block 5 (s (r [
 m 71 69,
 m 10 71] [71])
 (s (.draw true [
 a (v 72 (.indexArr 8 1 (t 9) (c 7))),
 a (l 73 72),
 e (v 74 (.indexArr 8 1 (t 9) (c 4))),
 e (l 75 74),
 a (v 78 (.indexArr 8 1 (t 9) (c 6))),
 a (l 79 78),
 a (v 80 (.indexArr 8 1 (t 9) (c 4))),
 a (l 81 80),
 a (v 82 (.indexArr 8 1 (t 9) (c 5))),
 a (l 83 82),
 a (v 84 (.indexArr 8 1 (t 9) (c 6))),
 a (l 85 84),
 a (v 86 (.bin .xor T.uint32 (t 83) (t 85))),
 a (v 87 (.bin .and T.uint32 (t 81) (t 86))),
 a (v 88 (.bin .xor T.uint32 (t 79) (t 87))),
 a (m 90 10),
 (.late, ⟨some 91, none, .val (.indexArr 64 1 (.const (.val (.pointer (some ⟨1, 0, none⟩)))) (t 90))⟩),
 a (l 92 91),
 a (m 94 10),
 a (v 95 (.indexArr 64 1 (t 4) (t 94))),
 a (l 96 95),
 h (f 76 F.q27 [(t 75), (c 6), (c 11), (c 25)]),
 a (v 77 (.bin .add T.uint32 (t 73) (t 76))),
 a (v 89 (.bin .add T.uint32 (t 77) (t 88))),
 a (v 93 (.bin .add T.uint32 (t 89) (t 92))),
 a (v 97 (.bin .add T.uint32 (t 93) (t 96))),
 a (m 11 97)] [72, 73, 74, 75, 76, 77, 78, 79, 80, 81, 82, 83, 84, 85, 86, 87, 88, 89, 90, 91, 92, 93, 94, 95, 96, 97])
 (s (.draw true [
 e (v 98 (.indexArr 8 1 (t 9) (c 0))),
 e (l 99 98),
 a (v 101 (.indexArr 8 1 (t 9) (c 0))),
 a (l 102 101),
 a (v 103 (.indexArr 8 1 (t 9) (c 1))),
 a (l 104 103),
 a (v 105 (.bin .and T.uint32 (t 102) (t 104))),
 a (v 106 (.indexArr 8 1 (t 9) (c 2))),
 a (l 107 106),
 a (v 108 (.indexArr 8 1 (t 9) (c 0))),
 a (l 109 108),
 a (v 110 (.indexArr 8 1 (t 9) (c 1))),
 a (l 111 110),
 a (v 112 (.bin .or T.uint32 (t 109) (t 111))),
 a (v 113 (.bin .and T.uint32 (t 107) (t 112))),
 a (v 114 (.bin .or T.uint32 (t 105) (t 113))),
 h (f 100 F.q27 [(t 99), (c 2), (c 13), (c 22)]),
 a (v 115 (.bin .add T.uint32 (t 100) (t 114))),
 a (m 12 115)] [98, 99, 100, 101, 102, 103, 104, 105, 106, 107, 108, 109, 110, 111, 112, 113, 114, 115])
 (s (.draw false [
 e (v 116 (.sliceArr 8 1 (t 9) (some (c 1)) none none)),
 e (v 117 (.sliceArr 8 1 (t 9) none (some (c 7)) none)),
 h (⟨some 118, none, .copy 1 (t 116) (t 117)⟩)] [116, 117, 118])
 (s (r [
 v 119 (.indexArr 8 1 (t 9) (c 4)),
 l 120 119,
 m 121 11,
 v 122 (.bin .add T.uint32 (t 120) (t 121)),
 v 123 (.indexArr 8 1 (t 9) (c 4)),
 y 1 123 122] [119, 120, 121, 122, 123])
 (r [
 m 124 11,
 m 125 12,
 v 126 (.bin .add T.uint32 (t 124) (t 125)),
 v 127 (.indexArr 8 1 (t 9) (c 0)),
 y 1 127 126] [124, 125, 126, 127])))))))
 (r [
 v 128 (p 69 1),
 m 69 128] [128])))))))
 (s (r [
 i 129 0] [])
 (.block 6 (.loop (s (r [
 v 130 (.bin .lss T.int (t 129) (c 8))] [])
 (s (d 130
 .skip
 (.exit 6))
 (s (.block 7 (s (r [
 m 131 129,
 m 13 131] [131])
 (.draw false [
 e (m 132 0),
 e (m 133 13),
 e (v 134 (.nilCheck (t 132))),
 e (v 135 (.indexArr 8 1 (t 134) (t 133))),
 e (l 136 135),
 e (m 137 13),
 e (v 138 (.indexArr 8 1 (t 9) (t 137))),
 e (l 139 138),
 e (v 140 (.bin .add T.uint32 (t 136) (t 139))),
 e (v 141 (.nilCheck (t 132))),
 e (v 142 (.indexArr 8 1 (t 141) (t 133))),
 (.last, y 1 142 140)] [132, 133, 134, 135, 136, 137, 138, 139, 140, 141, 142])))
 (r [
 v 143 (p 129 1),
 m 129 143] [143]))))))))))))⟩
theorem H.q01 : Has P F.q01 C.q01 := ⟨Tryz.f183, Tryz.func183, by kernel_rfl, by kernel_rfl⟩
noncomputable def C.q3y : MFunc := ⟨23, 2, [],
 (s (r [
 m 5 0,
 v 6 (n 5),
 i 7 0] [5])
 (.block 0 (.loop (s (r [
 v 8 (A 7 6)] [])
 (s (d 8
 .skip
 (.exit 0))
 (s (.block 1 (s (r [
 m 9 7,
 m 4 9] [9])
 (r [
 m 10 0,
 m 11 0,
 v 12 (n 11),
 v 13 (.bin .sub T.int (t 12) (c 1)),
 m 14 4,
 v 15 (.bin .sub T.int (t 13) (t 14)),
 m 16 1,
 m 17 4,
 v 18 (.bin .mul T.int (c 8) (t 17)),
 v 19 (.bin .shr T.uint64 (t 16) (t 18)),
 v 20 (.toInt .u8 (t 19)),
 v 21 (I 1 10 15),
 y 1 21 20] [10, 11, 12, 13, 14, 15, 16, 17, 18, 19, 20, 21])))
 (r [
 v 22 (p 7 1),
 m 7 22] [22])))))))⟩
theorem H.q3y : Has P F.q3y C.q3y := ⟨Tryz.f184, Tryz.func184, by kernel_rfl, by kernel_rfl⟩
noncomputable def C.q2e : MFunc := ⟨27, 2, [.tmp 4],
 (s (r [
 v 4 (.mv (.const .nil))] [])
 (s (s (r [
 m 5 1,
 v 6 (.bin .lss T.int (t 5) (c 0))] [5])
 (d 6
 (r [
 ⟨some 7, none, .val (.mkIface T.string (.const (.val (.string ⟨#[99, 97, 110, 110, 111, 116, 32, 98, 101, 32, 110, 101, 103, 97, 116, 105, 118, 101]⟩))))⟩,
 ⟨none, none, .panic (t 7)⟩] [7])
 .skip))
 (s (s (r [
 m 8 1,
 m 9 0,
 v 10 (.cap (t 9)),
 m 11 0,
 v 12 (n 11),
 v 13 (.bin .sub T.int (t 10) (t 12)),
 v 14 (.bin .sub T.int (t 8) (t 13)),
 m 1 14] [8, 9, 10, 11, 12, 13, 14])
 (s (r [
 m 15 1,
 v 16 (.bin .gtr T.int (t 15) (c 0))] [15])
 (d 16
 (r [
 m 17 0,
 m 18 0,
 v 19 (.cap (t 18)),
 v 20 (.slice 1 (t 17) none (some (t 19)) none),
 m 21 1,
 ⟨some 22, none, .appendZ T.uint8 1 1 [(.val (.int .u8 0))] (t 20) (t 21)⟩,
 m 23 0,
 v 24 (n 23),
 v 25 (.slice 1 (t 22) none (some (t 24)) none),
 m 0 25] [17, 18, 19, 20, 21, 22, 23, 24, 25])
 .skip)))
 (s (r [
 m 26 0,
 m 4 26] [26])
 .ret))))⟩
theorem H.q2e : Has P F.q2e C.q2e := ⟨Tryz.f185, Tryz.func185, by kernel_rfl, by kernel_rfl⟩
noncomputable def C.q2m : MFunc := ⟨19, 2, [.tmp 4],
 (s (r [
 i 4 0] [])
 (s (s (r [
 m 6 0,
 v 7 (n 6),
 i 8 0] [6])
 (.block 0 (.loop (s (r [
 v 9 (A 8 7)] [])
 (s (d 9
 .skip
 (.exit 0))
 (s (.block 1 (s (r [
 m 10 8,
 m 5 10] [10])
 (s (r [
 m 11 1,
 m 12 0,
 m 13 5,
 v 14 (I 1 12 13),
 l 15 14,
 v 16 (B 11 15)] [11, 12, 13, 14, 15])
 (d 16
 (s (r [
 m 17 5,
 m 4 17] [17])
 .ret)
 .skip))))
 (r [
 v 18 (p 8 1),
 m 8 18] [18])))))))
 (s (r [
 v 4 (.mv (.const (.int (-1))))] [])
 .ret)))⟩
theorem H.q2m : Has P F.q2m C.q2m := ⟨Tryz.f186, Tryz.func186, by kernel_rfl, by kernel_rfl⟩
noncomputable def C.q3v : MFunc := ⟨35, 1, [.tmp 2],
 (s (r [
 v 2 (.mv (.const .nil))] [])
 (s (r [
 v 6 (.buildSlice T.uint8 0 [] []),
 m 7 0,
 ⟨some 8, none, .append T.uint8 1 1 (t 6) (t 7)⟩,
 v 9 (.buildSlice T.uint8 1 [(.val (.int .u8 0))] [(0, 1, (.const (.val (.int .u8 128))))]),
 ⟨some 10, none, .append T.uint8 1 1 (t 8) (t 9)⟩,
 m 3 10] [6, 7, 8, 9, 10])
 (s (.block 0 (.loop (s (s (r [
 m 11 3,
 v 12 (n 11),
 v 13 (.bin .rem T.int (t 12) (c 64)),
 v 14 (.bin .neq T.int (t 13) (c 56))] [11, 12, 13])
 (d 14
 .skip
 (.exit 0)))
 (.block 1 (r [
 m 15 3,
 v 16 (.buildSlice T.uint8 1 [(.val (.int .u8 0))] [(0, 1, (.const (.val (.int .u8 0))))]),
 ⟨some 17, none, .append T.uint8 1 1 (t 15) (t 16)⟩,
 m 3 17] [15, 16, 17])))))
 (s (r [
 m 18 0,
 v 19 (n 18),
 v 20 (.toInt .u64 (t 19)),
 v 21 (.bin .mul T.uint64 (t 20) (.const (.val (.int .u64 8)))),
 m 4 21] [18, 19, 20, 21])
 (s (s (r [
 i 5 7] [])
 (.block 2 (.loop (s (s (r [
 m 22 5,
 v 23 (.bin .geq T.int (t 22) (c 0))] [22])
 (d 23
 .skip
 (.exit 2)))
 (s (.block 3 (r [
 m 26 3,
 m 27 4,
 m 28 5,
 v 29 (.bin .mul T.int (c 8) (t 28)),
 v 30 (.bin .shr T.uint64 (t 27) (t 29)),
 v 31 (.toInt .u8 (t 30)),
 v 32 (.buildSlice T.uint8 1 [(.val (.int .u8 0))] [(0, 1, (t 31))]),
 ⟨some 33, none, .append T.uint8 1 1 (t 26) (t 32)⟩,
 m 3 33] [26, 27, 28, 29, 30, 31, 32, 33]))
 (r [
 m 24 5,
 v 25 (.bin .sub T.int (t 24) (c 1)),
 m 5 25] [24, 25]))))))
 (s (r [
 m 34 3,
 m 2 34] [34])
 .ret))))))⟩
theorem H.q3v : Has P F.q3v C.q3v := ⟨Tryz.f190, Tryz.func190, by kernel_rfl, by kernel_rfl⟩
noncomputable def C.q31 : MFunc := ⟨191, 2, [.cell 4 8 true],
 (s (r [
 ⟨some 2, none, .box T.t8uint32 (t 0)⟩,
 ⟨some 4, none, .alloc T.t8uint32 [(.val (.int .u32 0)), (.val (.int .u32 0)), (.val (.int .u32 0)), (.val (.int .u32 0)), (.val (.int .u32 0)), (.val (.int .u32 0)), (.val (.int .u32 0)), (.val (.int .u32 0))]⟩] [])
 (s (r [
 v 22 (.build ((.val (.int .u32 0)) :: (.val (.int .u32 0)) :: (.val (.int .u32 0)) :: (.val (.int .u32 0)) :: (.val (.int .u32 0)) :: (.val (.int .u32 0)) :: (.val (.int .u32 0)) :: (.val (.int .u32 0)) :: (.val (.int .u32 0)) :: (.val (.int .u32 0)) :: (.val (.int .u32 0)) :: (.val (.int .u32 0)) :: (.val (.int .u32 0)) :: (.val (.int .u32 0)) :: (.val (.int .u32 0)) :: (.val (.int .u32 0)) :: (.val (.int .u32 0)) :: (.val (.int .u32 0)) :: (.val (.int .u32 0)) :: (.val (.int .u32 0)) :: (.val (.int .u32 0)) :: (.val (.int .u32 0)) :: (.val (.int .u32 0)) :: (.val (.int .u32 0)) :: (.val (.int .u32 0)) :: (.val (.int .u32 0)) :: (.val (.int .u32 0)) :: (.val (.int .u32 0)) :: (.val (.int .u32 0)) :: (.val (.int .u32 0)) :: (.val (.int .u32 0)) :: (.val (.int .u32 0)) :: (.val (.int .u32 0)) :: (.val (.int .u32 0)) :: (.val (.int .u32 0)) :: (.val (.int .u32 0)) :: (.val (.int .u32 0)) :: (.val (.int .u32 0)) :: (.val (.int .u32 0)) :: (.val (.int .u32 0)) :: (.val (.int .u32 0)) :: (.val (.int .u32 0)) :: (.val (.int .u32 0)) :: (.val (.int .u32 0)) :: (.val (.int .u32 0)) :: (.val (.int .u32 0)) :: (.val (.int .u32 0)) :: (.val (.int .u32 0)) :: (.val (.int .u32 0)) :: (.val (.int .u32 0)) :: (.val (.int .u32 0)) :: (.val (.int .u32 0)) :: (.val (.int .u32 0)) :: (.val (.int .u32 0)) :: (.val (.int .u32 0)) :: (.val (.int .u32 0)) :: (.val (.int .u32 0)) :: (.val (.int .u32 0)) :: (.val (.int .u32 0)) :: (.val (.int .u32 0)) :: (.val (.int .u32 0)) :: (.val (.int .u32 0)) :: (.val (.int .u32 0)) :: (.val (.int .u32 0)) :: []) []),
 ⟨some 5, none, .alloc T.t64uint32 ((.val (.int .u32 0)) :: (.val (.int .u32 0)) :: (.val (.int .u32 0)) :: (.val (.int .u32 0)) :: (.val (.int .u32 0)) :: (.val (.int .u32 0)) :: (.val (.int .u32 0)) :: (.val (.int .u32 0)) :: (.val (.int .u32 0)) :: (.val (.int .u32 0)) :: (.val (.int .u32 0)) :: (.val (.int .u32 0)) :: (.val (.int .u32 0)) :: (.val (.int .u32 0)) :: (.val (.int .u32 0)) :: (.val (.int .u32 0)) :: (.val (.int .u32 0)) :: (.val (.int .u32 0)) :: (.val (.int .u32 0)) :: (.val (.int .u32 0)) :: (.val (.int .u32 0)) :: (.val (.int .u32 0)) :: (.val (.int .u32 0)) :: (.val (.int .u32 0)) :: (.val (.int .u32 0)) :: (.val (.int .u32 0)) :: (.val (.int .u32 0)) :: (.val (.int .u32 0)) :: (.val (.int .u32 0)) :: (.val (.int .u32 0)) :: (.val (.int .u32 0)) :: (.val (.int .u32 0)) :: (.val (.int .u32 0)) :: (.val (.int .u32 0)) :: (.val (.int .u32 0)) :: (.val (.int .u32 0)) :: (.val (.int .u32 0)) :: (.val (.int .u32 0)) :: (.val (.int .u32 0)) :: (.val (.int .u32 0)) :: (.val (.int .u32 0)) :: (.val (.int .u32 0)) :: (.val (.int .u32 0)) :: (.val (.int .u32 0)) :: (.val (.int .u32 0)) :: (.val (.int .u32 0)) :: (.val (.int .u32 0)) :: (.val (.int .u32 0)) :: (.val (.int .u32 0)) :: (.val (.int .u32 0)) :: (.val (.int .u32 0)) :: (.val (.int .u32 0)) :: (.val (.int .u32 0)) :: (.val (.int .u32 0)) :: (.val (.int .u32 0)) :: (.val (.int .u32 0)) :: (.val (.int .u32 0)) :: (.val (.int .u32 0)) :: (.val (.int .u32 0)) :: (.val (.int .u32 0)) :: (.val (.int .u32 0)) :: (.val (.int .u32 0)) :: (.val (.int .u32 0)) :: (.val (.int .u32 0)) :: [])⟩,
 y 64 5 22] [22])
 (s (s (r [
 i 6 0] [])
 (.block 0 (.loop (s (s (r [
 m 23 6,
 v 24 (.bin .lss T.int (t 23) (c 16))] [23])
 (d 24
 .skip
 (.exit 0)))
 (s (.block 1 (r [
 m 27 6,
 m 28 1,
 m 29 6,
 v 30 (.bin .mul T.int (c 4) (t 29)),
 m 31 6,
 v 32 (.bin .mul T.int (c 4) (t 31)),
 v 33 (p 32 4),
 v 34 (.slice 1 (t 28) (some (t 30)) (some (t 33)) none),
 f 35 F.q3o [(t 34)],
 v 36 (.indexArr 64 1 (t 5) (t 27)),
 y 1 36 35] [27, 28, 29, 30, 31, 32, 33, 34, 35, 36]))
 (r [
 m 25 6,
 v 26 (p 25 1),
 m 6 26] [25, 26]))))))
 (s (s (r [
 i 7 16] [])
 (.block 2 (.loop (s (s (r [
 m 37 7,
 v 38 (.bin .lss T.int (t 37) (c 64))] [37])
 (d 38
 .skip
 (.exit 2)))
 (s (.block 3 (s (r [
 m 41 7,
 v 42 (.bin .sub T.int (t 41) (c 15)),
 v 43 (.indexArr 64 1 (t 5) (t 42)),
 l 44 43,
 m 8 44] [41, 42, 43, 44])
 (s (r [
 m 45 7,
 v 46 (.bin .sub T.int (t 45) (c 2)),
 v 47 (.indexArr 64 1 (t 5) (t 46)),
 l 48 47,
 m 9 48] [45, 46, 47, 48])
 (.draw true [
 a (m 49 7),
 a (m 50 7),
 a (v 51 (.bin .sub T.int (t 50) (c 16))),
 a (v 52 (.indexArr 64 1 (t 5) (t 51))),
 a (l 53 52),
 e (m 54 8),
 a (m 56 8),
 a (m 59 8),
 a (v 60 (.bin .shr T.uint32 (t 59) (.const (.val (.int .u64 3))))),
 a (m 63 7),
 a (v 64 (.bin .sub T.int (t 63) (c 7))),
 a (v 65 (.indexArr 64 1 (t 5) (t 64))),
 a (l 66 65),
 a (m 68 9),
 a (m 70 9),
 a (m 73 9),
 a (v 74 (.bin .shr T.uint32 (t 73) (.const (.val (.int .u64 10))))),
 h (f 55 F.q0b [(t 54), (c 7)]),
 h (f 57 F.q0b [(t 56), (c 18)]),
 a (v 58 (.bin .xor T.uint32 (t 55) (t 57))),
 a (v 61 (.bin .xor T.uint32 (t 58) (t 60))),
 a (v 62 (.bin .add T.uint32 (t 53) (t 61))),
 a (v 67 (.bin .add T.uint32 (t 62) (t 66))),
 h (f 69 F.q0b [(t 68), (c 17)]),
 h (f 71 F.q0b [(t 70), (c 19)]),
 a (v 72 (.bin .xor T.uint32 (t 69) (t 71))),
 a (v 75 (.bin .xor T.uint32 (t 72) (t 74))),
 a (v 76 (.bin .add T.uint32 (t 67) (t 75))),
 a (v 77 (.indexArr 64 1 (t 5) (t 49))),
 (.last, y 1 77 76)] [49, 50, 51, 52, 53, 54, 55, 56, 57, 58, 59, 60, 61, 62, 63, 64, 65, 66, 67, 68, 69, 70, 71, 72, 73, 74, 75, 76, 77]))))
 (r [
 m 39 7,
 v 40 (p 39 1),
 m 7 40] [39, 40]))))))
 (s (r [
 f 78 F.q3h [],
 ⟨some 10, none, .alloc T.t64uint32 ((.val (.int .u32 0)) :: (.val (.int .u32 0)) :: (.val (.int .u32 0)) :: (.val (.int .u32 0)) :: (.val (.int .u32 0)) :: (.val (.int .u32 0)) :: (.val (.int .u32 0)) :: (.val (.int .u32 0)) :: (.val (.int .u32 0)) :: (.val (.int .u32 0)) :: (.val (.int .u32 0)) :: (.val (.int .u32 0)) :: (.val (.int .u32 0)) :: (.val (.int .u32 0)) :: (.val (.int .u32 0)) :: (.val (.int .u32 0)) :: (.val (.int .u32 0)) :: (.val (.int .u32 0)) :: (.val (.int .u32 0)) :: (.val (.int .u32 0)) :: (.val (.int .u32 0)) :: (.val (.int .u32 0)) :: (.val (.int .u32 0)) :: (.val (.int .u32 0)) :: (.val (.int .u32 0)) :: (.val (.int .u32 0)) :: (.val (.int .u32 0)) :: (.val (.int .u32 0)) :: (.val (.int .u32 0)) :: (.val (.int .u32 0)) :: (.val (.int .u32 0)) :: (.val (.int .u32 0)) :: (.val (.int .u32 0)) :: (.val (.int .u32 0)) :: (.val (.int .u32 0)) :: (.val (.int .u32 0)) :: (.val (.int .u32 0)) :: (.val (.int .u32 0)) :: (.val (.int .u32 0)) :: (.val (.int .u32 0)) :: (.val (.int .u32 0)) :: (.val (.int .u32 0)) :: (.val (.int .u32 0)) :: (.val (.int .u32 0)) :: (.val (.int .u32 0)) :: (.val (.int .u32 0)) :: (.val (.int .u32 0)) :: (.val (.int .u32 0)) :: (.val (.int .u32 0)) :: (.val (.int .u32 0)) :: (.val (.int .u32 0)) :: (.val (.int .u32 0)) :: (.val (.int .u32 0)) :: (.val (.int .u32 0)) :: (.val (.int .u32 0)) :: (.val (.int .u32 0)) :: (.val (.int .u32 0)) :: (.val (.int .u32 0)) :: (.val (.int .u32 0)) :: (.val (.int .u32 0)) :: (.val (.int .u32 0)) :: (.val (.int .u32 0)) :: (.val (.int .u32 0)) :: (.val (.int .u32 0)) :: [])⟩,
 y 64 10 78] [78])
 (s (.draw false [
 e (v 79 (.indexArr 8 1 (t 2) (c 0))),
 e (l 80 79),
 e (v 81 (.indexArr 8 1 (t 2) (c 1))),
 e (l 82 81),
 e (v 83 (.indexArr 8 1 (t 2) (c 2))),
 e (l 84 83),
 e (v 85 (.indexArr 8 1 (t 2) (c 3))),
 e (l 86 85),
 e (v 87 (.indexArr 8 1 (t 2) (c 4))),
 e (l 88 87),
 e (v 89 (.indexArr 8 1 (t 2) (c 5))),
 e (l 90 89),
 e (v 91 (.indexArr 8 1 (t 2) (c 6))),
 e (l 92 91),
 e (v 93 (.indexArr 8 1 (t 2) (c 7))),
 e (l 94 93),
 e (m 11 80),
 e (m 12 82),
 e (m 13 84),
 e (m 14 86),
 e (m 15 88),
 e (m 16 90),
 e (m 17 92),
 e (m 18 94)] [79, 80, 81, 82, 83, 84, 85, 86, 87, 88, 89, 90, 91, 92, 93, 94])
 (s (s (r [
 i 19 0] [])
 (.block 4 (.loop (s (s (r [
 m 95 19,
 v 96 (.bin .lss T.int (t 95) (c 64))] [95])
 (d 96
 .skip
 (.exit 4)))
 (s (.block 5 (s (.draw true [
 a (m 99 18),
 e (m 100 15),
 a (m 102 15),
 a (m 105 15),
 a (m 109 15),
 a (m 110 16),
 a (v 111 (.bin .and T.uint32 (t 109) (t 110))),
 a (m 112 15),
 a (v 113 (.un .xor (t 112))),
 a (m 114 17),
 a (v 115 (.bin .and T.uint32 (t 113) (t 114))),
 a (v 116 (.bin .xor T.uint32 (t 111) (t 115))),
 a (m 118 19),
 a (v 119 (.indexArr 64 1 (t 10) (t 118))),
 a (l 120 119),
 a (m 122 19),
 a (v 123 (.indexArr 64 1 (t 5) (t 122))),
 a (l 124 123),
 h (f 101 F.q0b [(t 100), (c 6)]),
 h (f 103 F.q0b [(t 102), (c 11)]),
 a (v 104 (.bin .xor T.uint32 (t 101) (t 103))),
 h (f 106 F.q0b [(t 105), (c 25)]),
 a (v 107 (.bin .xor T.uint32 (t 104) (t 106))),
 a (v 108 (.bin .add T.uint32 (t 99) (t 107))),
 a (v 117 (.bin .add T.uint32 (t 108) (t 116))),
 a (v 121 (.bin .add T.uint32 (t 117) (t 120))),
 a (v 125 (.bin .add T.uint32 (t 121) (t 124))),
 a (m 20 125)] [99, 100, 101, 102, 103, 104, 105, 106, 107, 108, 109, 110, 111, 112, 113, 114, 115, 116, 117, 118, 119, 120, 121, 122, 123, 124, 125])
 (s (r [
 m 126 11,
 f 127 F.q0b [(t 126), (c 2)],
 m 128 11,
 f 129 F.q0b [(t 128), (c 13)],
 v 130 (.bin .xor T.uint32 (t 127) (t 129)),
 m 131 11,
 f 132 F.q0b [(t 131), (c 22)],
 v 133 (.bin .xor T.uint32 (t 130) (t 132)),
 m 134 11,
 m 135 12,
 v 136 (.bin .and T.uint32 (t 134) (t 135)),
 m 137 11,
 m 138 13,
 v 139 (.bin .and T.uint32 (t 137) (t 138)),
 v 140 (.bin .xor T.uint32 (t 136) (t 139)),
 m 141 12,
 m 142 13,
 v 143 (.bin .and T.uint32 (t 141) (t 142)),
 v 144 (.bin .xor T.uint32 (t 140) (t 143)),
 v 145 (.bin .add T.uint32 (t 133) (t 144)),
 m 21 145] [126, 127, 128, 129, 130, 131, 132, 133, 134, 135, 136, 137, 138, 139, 140, 141, 142, 143, 144, 145])
 (r [
 m 146 17,
 m 147 16,
 m 148 15,
 m 149 14,
 m 150 20,
 v 151 (.bin .add T.uint32 (t 149) (t 150)),
 m 152 13,
 m 153 12,
 m 154 11,
 m 155 20,
 m 156 21,
 v 157 (.bin .add T.uint32 (t 155) (t 156)),
 m 18 146,
 m 17 147,
 m 16 148,
 m 15 151,
 m 14 152,
 m 13 153,
 m 12 154,
 m 11 157] [146, 147, 148, 149, 150, 151, 152, 153, 154, 155, 156, 157]))))
 (r [
 m 97 19,
 v 98 (p 97 1),
 m 19 98] [97, 98]))))))
 (s (.region (
 v 158 (.indexArr 8 1 (t 2) (c 0)) ::
 l 159 158 ::
 m 160 11 ::
 v 161 (.bin .add T.uint32 (t 159) (t 160)) ::
 v 162 (.indexArr 8 1 (t 2) (c 1)) ::
 l 163 162 ::
 m 164 12 ::
 v 165 (.bin .add T.uint32 (t 163) (t 164)) ::
 v 166 (.indexArr 8 1 (t 2) (c 2)) ::
 l 167 166 ::
 m 168 13 ::
 v 169 (.bin .add T.uint32 (t 167) (t 168)) ::
 v 170 (.indexArr 8 1 (t 2) (c 3)) ::
 l 171 170 ::
 m 172 14 ::
 v 173 (.bin .add T.uint32 (t 171) (t 172)) ::
 v 174 (.indexArr 8 1 (t 2) (c 4)) ::
 l 175 174 ::
 m 176 15 ::
 v 177 (.bin .add T.uint32 (t 175) (t 176)) ::
 v 178 (.indexArr 8 1 (t 2) (c 5)) ::
 l 179 178 ::
 m 180 16 ::
 v 181 (.bin .add T.uint32 (t 179) (t 180)) ::
 v 182 (.indexArr 8 1 (t 2) (c 6)) ::
 l 183 182 ::
 m 184 17 ::
 v 185 (.bin .add T.uint32 (t 183) (t 184)) ::
 v 186 (.indexArr 8 1 (t 2) (c 7)) ::
 l 187 186 ::
 m 188 18 ::
 v 189 (.bin .add T.uint32 (t 187) (t 188)) ::
 v 190 (.build [(.val (.int .u32 0)), (.val (.int .u32 0)), (.val (.int .u32 0)), (.val (.int .u32 0)), (.val (.int .u32 0)), (.val (.int .u32 0)), (.val (.int .u32 0)), (.val (.int .u32 0))] [(0, 1, (t 161)), (1, 1, (t 165)), (2, 1, (t 169)), (3, 1, (t 173)), (4, 1, (t 177)), (5, 1, (t 181)), (6, 1, (t 185)), (7, 1, (t 189))]) ::
 y 8 4 190 :: []) (158 :: 159 :: 160 :: 161 :: 162 :: 163 :: 164 :: 165 :: 166 :: 167 :: 168 :: 169 :: 170 :: 171 :: 172 :: 173 :: 174 :: 175 :: 176 :: 177 :: 178 :: 179 :: 180 :: 181 :: 182 :: 183 :: 184 :: 185 :: 186 :: 187 :: 188 :: 189 :: 190 :: []))
 .ret))))))))⟩
theorem H.q31 : Has P F.q31 C.q31 := ⟨Tryz.f191, Tryz.func191, by kernel_rfl, by kernel_rfl⟩
noncomputable def C.q3d : MFunc := ⟨9, 1, [.tmp 2],
 (s (r [
 ⟨some 1, none, .box T.apiValue (t 0)⟩,
 i 2 0] [])
 (s (s (r [
 L 3 4 1,
 f 4 F.q0o [(t 3)],
 v 5 (N 4)] [3, 4])
 (d 5
 (s (r [
 i 2 1] [])
 .ret)
 .skip))
 (s (s (r [
 L 6 4 1,
 f 7 F.q0s [(t 6)],
 v 8 (.bin .gtr T.int (t 7) (c 16))] [6, 7])
 (d 8
 (s (r [
 i 2 2] [])
 .ret)
 .skip))
 (s (r [
 i 2 0] [])
 .ret))))⟩
theorem H.q3d : Has P F.q3d C.q3d := ⟨Tryz.f192, Tryz.func192, by kernel_rfl, by kernel_rfl⟩
noncomputable def C.q0k : MFunc := ⟨50, 1, [.tmp 2],
 (s (r [
 ⟨some 1, none, .box T.apiValue (t 0)⟩,
 v 2 (.mv (.const .nil))] [])
 (s (s (r [
 g 5 0 1,
 l 6 5] [5])
 (.block 0 (s (r [
 v 8 (.bin .eql T.int (t 6) (c 1)),
 m 7 8] [8])
 (d 7
 (s (r [
 v 9 (.buildSlice T.uint8 1 [(.val (.int .u8 0))] [(0, 1, (.const (.val (.int .u8 1))))]),
 g 10 1 1,
 l 11 10,
 f 12 F.q28 [(t 11)],
 f 13 F.q1l [(t 12)],
 ⟨some 14, none, .append T.uint8 1 1 (t 9) (t 13)⟩,
 m 2 14] [9, 10, 11, 12, 13, 14])
 .ret)
 (s (r [
 v 16 (.bin .eql T.int (t 6) (c 2)),
 m 15 16] [16])
 (d 15
 (s (.draw true [
 a (v 17 (.buildSlice T.uint8 1 [(.val (.int .u8 0))] [(0, 1, (.const (.val (.int .u8 2))))])),
 e (g 18 2 1),
 e (l 19 18),
 e (v 20 (.strlen (t 19))),
 e (v 21 (.toInt .u64 (t 20))),
 a (g 24 2 1),
 a (l 25 24),
 h (f 22 F.q1l [(t 21)]),
 h (⟨some 23, none, .append T.uint8 1 1 (t 17) (t 22)⟩),
 h (⟨some 26, none, .append T.uint8 1 1 (t 23) (t 25)⟩),
 a (m 2 26)] [17, 18, 19, 20, 21, 22, 23, 24, 25, 26])
 .ret)
 .skip))))))
 (s (r [
 v 27 (.buildSlice T.uint8 1 [(.val (.int .u8 0))] [(0, 1, (.const (.val (.int .u8 3))))]),
 g 28 3 1,
 l 29 28,
 v 30 (n 29),
 v 31 (.toInt .u64 (t 30)),
 f 32 F.q1l [(t 31)],
 ⟨some 33, none, .append T.uint8 1 1 (t 27) (t 32)⟩,
 m 3 33] [27, 28, 29, 30, 31, 32, 33])
 (s (s (r [
 i 4 0] [])
 (.block 1 (.loop (s (s (r [
 m 34 4,
 g 35 3 1,
 l 36 35,
 v 37 (n 36),
 v 38 (A 34 37)] [34, 35, 36, 37])
 (d 38
 .skip
 (.exit 1)))
 (s (.block 2 (r [
 m 41 3,
 g 42 3 1,
 l 43 42,
 m 44 4,
 v 45 (I 4 43 44),
 L 46 4 45,
 f 47 F.q0k [(t 46)],
 ⟨some 48, none, .append T.uint8 1 1 (t 41) (t 47)⟩,
 m 3 48] [41, 42, 43, 44, 45, 46, 47, 48]))
 (r [
 m 39 4,
 v 40 (p 39 1),
 m 4 40] [39, 40]))))))
 (s (r [
 m 49 3,
 m 2 49] [49])
 .ret)))))⟩
theorem H.q0k : Has P F.q0k C.q0k := ⟨Tryz.f193, Tryz.func193, by kernel_rfl, by kernel_rfl⟩
noncomputable def C.q32 : MFunc := ⟨20, 2, [.tmp 4],
 (s (r [
 i 4 0] [])
 (s (r [
 i 5 1] [])
 (s (.block 0 (.loop (s (s (r [
 m 6 1,
 v 7 (.bin .gtr T.int (t 6) (c 0))] [6])
 (d 7
 .skip
 (.exit 0)))
 (.block 1 (s (s (r [
 m 8 1,
 v 9 (.bin .rem T.int (t 8) (c 2)),
 v 10 (.bin .eql T.int (t 9) (c 1))] [8, 9])
 (d 10
 (r [
 m 11 5,
 m 12 0,
 f 13 F.q2w [(t 11), (t 12)],
 m 5 13] [11, 12, 13])
 .skip))
 (s (r [
 m 14 0,
 m 15 0,
 f 16 F.q2w [(t 14), (t 15)],
 m 0 16] [14, 15, 16])
 (r [
 m 17 1,
 v 18 (.bin .quo T.int (t 17) (c 2)),
 m 1 18] [17, 18])))))))
 (s (r [
 m 19 5,
 m 4 19] [19])
 .ret))))⟩
theorem H.q32 : Has P F.q32 C.q32 := ⟨Tryz.f194, Tryz.func194, by kernel_rfl, by kernel_rfl⟩
noncomputable def C.q4t : MFunc := ⟨19, 1, [.tmp 2],
 (s (r [
 v 2 (.mv (.const (.val (.int .u32 0))))] [])
 (s (s (r [
 m 5 0,
 v 6 (.slice 1 (t 5) none (some (c 4)) none),
 v 7 (n 6),
 i 8 0] [5])
 (.block 0 (.loop (s (r [
 v 9 (A 8 7)] [])
 (s (d 9
 .skip
 (.exit 0))
 (s (.block 1 (s (r [
 v 10 (I 1 6 8),
 l 11 10,
 m 4 11] [10, 11])
 (r [
 m 12 2,
 v 13 (.bin .shl T.uint32 (t 12) (.const (.val (.int .u64 8)))),
 m 14 4,
 v 15 (.toInt .u32 (t 14)),
 v 16 (.bin .or T.uint32 (t 13) (t 15)),
 m 2 16] [12, 13, 14, 15, 16])))
 (r [
 v 17 (p 8 1),
 m 8 17] [17])))))))
 (s (r [
 m 18 2,
 m 2 18] [18])
 .ret)))⟩
theorem H.q4t : Has P F.q4t C.q4t := ⟨Tryz.f195, Tryz.func195, by kernel_rfl, by kernel_rfl⟩
noncomputable def C.q0c : MFunc := ⟨17, 2, [.tmp 4],
 (s (r [
 v 4 (.mv (.const (.val (.int .u32 0))))] [])
 (s (r [
 m 6 1,
 v 7 (.toInt .u64 (t 6)),
 v 8 (.bin .and T.uint (t 7) (.const (.val (.int .u64 31)))),
 m 5 8] [6, 7, 8])
 (s (r [
 m 9 0,
 m 10 5,
 v 11 (.bin .shl T.uint32 (t 9) (t 10)),
 m 12 0,
 m 13 5,
 v 14 (.bin .sub T.uint (.const (.val (.int .u64 32))) (t 13)),
 v 15 (.bin .shr T.uint32 (t 12) (t 14)),
 v 16 (.bin .or T.uint32 (t 11) (t 15)),
 m 4 16] [9, 10, 11, 12, 13, 14, 15, 16])
 .ret)))⟩
theorem H.q0c : Has P F.q0c C.q0c := ⟨Tryz.f196, Tryz.func196, by kernel_rfl, by kernel_rfl⟩
noncomputable def C.q27 : MFunc := ⟨23, 4, [.tmp 8],
 (s (r [
 v 8 (.mv (.const (.val (.int .u32 0))))] [])
 (s (r [
 m 9 0,
 m 10 1,
 v 11 (.un .neg (t 10)),
 f 12 F.q0c [(t 9), (t 11)],
 m 13 0,
 m 14 2,
 v 15 (.un .neg (t 14)),
 f 16 F.q0c [(t 13), (t 15)],
 v 17 (.bin .xor T.uint32 (t 12) (t 16)),
 m 18 0,
 m 19 3,
 v 20 (.un .neg (t 19)),
 f 21 F.q0c [(t 18), (t 20)],
 v 22 (.bin .xor T.uint32 (t 17) (t 21)),
 m 8 22] [9, 10, 11, 12, 13, 14, 15, 16, 17, 18, 19, 20, 21, 22])
 .ret))⟩
theorem H.q27 : Has P F.q27 C.q27 := ⟨Tryz.f197, Tryz.func197, by kernel_rfl, by kernel_rfl⟩
noncomputable def C.q3o : MFunc := ⟨25, 1, [.tmp 2],
 (s (r [
 v 2 (.mv (.const (.val (.int .u32 0))))] [])
 (s (.draw false [
 e (m 3 0),
 e (v 4 (.indexAddr 1 (t 3) (c 0))),
 e (l 5 4),
 e (v 6 (.toInt .u32 (t 5))),
 e (v 7 (.bin .shl T.uint32 (t 6) (.const (.val (.int .u64 24))))),
 e (m 8 0),
 e (v 9 (.indexAddr 1 (t 8) (c 1))),
 e (l 10 9),
 e (v 11 (.toInt .u32 (t 10))),
 e (v 12 (.bin .shl T.uint32 (t 11) (.const (.val (.int .u64 16))))),
 e (v 13 (.bin .or T.uint32 (t 7) (t 12))),
 e (m 14 0),
 e (v 15 (.indexAddr 1 (t 14) (c 2))),
 e (l 16 15),
 e (v 17 (.toInt .u32 (t 16))),
 e (v 18 (.bin .shl T.uint32 (t 17) (.const (.val (.int .u64 8))))),
 e (v 19 (.bin .or T.uint32 (t 13) (t 18))),
 e (m 20 0),
 e (v 21 (.indexAddr 1 (t 20) (c 3))),
 e (l 22 21),
 e (v 23 (.toInt .u32 (t 22))),
 e (v 24 (.bin .or T.uint32 (t 19) (t 23))),
 e (m 2 24)] [3, 4, 5, 6, 7, 8, 9, 10, 11, 12, 13, 14, 15, 16, 17, 18, 19, 20, 21, 22, 23, 24])
 .ret))⟩
theorem H.q3o : Has P F.q3o C.q3o := ⟨Tryz.f201, Tryz.func201, by kernel_rfl, by kernel_rfl⟩
noncomputable def C.q0b : MFunc := ⟨13, 2, [.tmp 4],
 (s (r [
 v 4 (.mv (.const (.val (.int .u32 0))))] [])
 (s (.draw false [
 e (m 5 0),
 e (m 6 1),
 e (v 7 (.bin .shr T.uint32 (t 5) (t 6))),
 e (m 8 0),
 e (m 9 1),
 e (v 10 (.bin .sub T.int (c 32) (t 9))),
 e (v 11 (.bin .shl T.uint32 (t 8) (t 10))),
 e (v 12 (.bin .or T.uint32 (t 7) (t 11))),
 e (m 4 12)] [5, 6, 7, 8, 9, 10, 11, 12])
 .ret))⟩
theorem H.q0b : Has P F.q0b C.q0b := ⟨Tryz.f202, Tryz.func202, by kernel_rfl, by kernel_rfl⟩
noncomputable def C.q3h : MFunc := ⟨2, 0, [.cell 0 64 true],
 (s (r [
 ⟨some 0, none, .alloc T.t64uint32 ((.val (.int .u32 0)) :: (.val (.int .u32 0)) :: (.val (.int .u32 0)) :: (.val (.int .u32 0)) :: (.val (.int .u32 0)) :: (.val (.int .u32 0)) :: (.val (.int .u32 0)) :: (.val (.int .u32 0)) :: (.val (.int .u32 0)) :: (.val (.int .u32 0)) :: (.val (.int .u32 0)) :: (.val (.int .u32 0)) :: (.val (.int .u32 0)) :: (.val (.int .u32 0)) :: (.val (.int .u32 0)) :: (.val (.int .u32 0)) :: (.val (.int .u32 0)) :: (.val (.int .u32 0)) :: (.val (.int .u32 0)) :: (.val (.int .u32 0)) :: (.val (.int .u32 0)) :: (.val (.int .u32 0)) :: (.val (.int .u32 0)) :: (.val (.int .u32 0)) :: (.val (.int .u32 0)) :: (.val (.int .u32 0)) :: (.val (.int .u32 0)) :: (.val (.int .u32 0)) :: (.val (.int .u32 0)) :: (.val (.int .u32 0)) :: (.val (.int .u32 0)) :: (.val (.int .u32 0)) :: (.val (.int .u32 0)) :: (.val (.int .u32 0)) :: (.val (.int .u32 0)) :: (.val (.int .u32 0)) :: (.val (.int .u32 0)) :: (.val (.int .u32 0)) :: (.val (.int .u32 0)) :: (.val (.int .u32 0)) :: (.val (.int .u32 0)) :: (.val (.int .u32 0)) :: (.val (.int .u32 0)) :: (.val (.int .u32 0)) :: (.val (.int .u32 0)) :: (.val (.int .u32 0)) :: (.val (.int .u32 0)) :: (.val (.int .u32 0)) :: (.val (.int .u32 0)) :: (.val (.int .u32 0)) :: (.val (.int .u32 0)) :: (.val (.int .u32 0)) :: (.val (.int .u32 0)) :: (.val (.int .u32 0)) :: (.val (.int .u32 0)) :: (.val (.int .u32 0)) :: (.val (.int .u32 0)) :: (.val (.int .u32 0)) :: (.val (.int .u32 0)) :: (.val (.int .u32 0)) :: (.val (.int .u32 0)) :: (.val (.int .u32 0)) :: (.val (.int .u32 0)) :: (.val (.int .u32 0)) :: [])⟩] [])
 (s (r [
 ⟨some 1, none, .val (.build ((.val (.int .u32 0)) :: (.val (.int .u32 0)) :: (.val (.int .u32 0)) :: (.val (.int .u32 0)) :: (.val (.int .u32 0)) :: (.val (.int .u32 0)) :: (.val (.int .u32 0)) :: (.val (.int .u32 0)) :: (.val (.int .u32 0)) :: (.val (.int .u32 0)) :: (.val (.int .u32 0)) :: (.val (.int .u32 0)) :: (.val (.int .u32 0)) :: (.val (.int .u32 0)) :: (.val (.int .u32 0)) :: (.val (.int .u32 0)) :: (.val (.int .u32 0)) :: (.val (.int .u32 0)) :: (.val (.int .u32 0)) :: (.val (.int .u32 0)) :: (.val (.int .u32 0)) :: (.val (.int .u32 0)) :: (.val (.int .u32 0)) :: (.val (.int .u32 0)) :: (.val (.int .u32 0)) :: (.val (.int .u32 0)) :: (.val (.int .u32 0)) :: (.val (.int .u32 0)) :: (.val (.int .u32 0)) :: (.val (.int .u32 0)) :: (.val (.int .u32 0)) :: (.val (.int .u32 0)) :: (.val (.int .u32 0)) :: (.val (.int .u32 0)) :: (.val (.int .u32 0)) :: (.val (.int .u32 0)) :: (.val (.int .u32 0)) :: (.val (.int .u32 0)) :: (.val (.int .u32 0)) :: (.val (.int .u32 0)) :: (.val (.int .u32 0)) :: (.val (.int .u32 0)) :: (.val (.int .u32 0)) :: (.val (.int .u32 0)) :: (.val (.int .u32 0)) :: (.val (.int .u32 0)) :: (.val (.int .u32 0)) :: (.val (.int .u32 0)) :: (.val (.int .u32 0)) :: (.val (.int .u32 0)) :: (.val (.int .u32 0)) :: (.val (.int .u32 0)) :: (.val (.int .u32 0)) :: (.val (.int .u32 0)) :: (.val (.int .u32 0)) :: (.val (.int .u32 0)) :: (.val (.int .u32 0)) :: (.val (.int .u32 0)) :: (.val (.int .u32 0)) :: (.val (.int .u32 0)) :: (.val (.int .u32 0)) :: (.val (.int .u32 0)) :: (.val (.int .u32 0)) :: (.val (.int .u32 0)) :: []) ((0, 1, (.const (.val (.int .u32 1116352408)))) :: (1, 1, (.const (.val (.int .u32 1899447441)))) :: (2, 1, (.const (.val (.int .u32 3049323471)))) :: (3, 1, (.const (.val (.int .u32 3921009573)))) :: (4, 1, (.const (.val (.int .u32 961987163)))) :: (5, 1, (.const (.val (.int .u32 1508970993)))) :: (6, 1, (.const (.val (.int .u32 2453635748)))) :: (7, 1, (.const (.val (.int .u32 2870763221)))) :: (8, 1, (.const (.val (.int .u32 3624381080)))) :: (9, 1, (.const (.val (.int .u32 310598401)))) :: (10, 1, (.const (.val (.int .u32 607225278)))) :: (11, 1, (.const (.val (.int .u32 1426881987)))) :: (12, 1, (.const (.val (.int .u32 1925078388)))) :: (13, 1, (.const (.val (.int .u32 2162078206)))) :: (14, 1, (.const (.val (.int .u32 2614888103)))) :: (15, 1, (.const (.val (.int .u32 3248222580)))) :: (16, 1, (.const (.val (.int .u32 3835390401)))) :: (17, 1, (.const (.val (.int .u32 4022224774)))) :: (18, 1, (.const (.val (.int .u32 264347078)))) :: (19, 1, (.const (.val (.int .u32 604807628)))) :: (20, 1, (.const (.val (.int .u32 770255983)))) :: (21, 1, (.const (.val (.int .u32 1249150122)))) :: (22, 1, (.const (.val (.int .u32 1555081692)))) :: (23, 1, (.const (.val (.int .u32 1996064986)))) :: (24, 1, (.const (.val (.int .u32 2554220882)))) :: (25, 1, (.const (.val (.int .u32 2821834349)))) :: (26, 1, (.const (.val (.int .u32 2952996808)))) :: (27, 1, (.const (.val (.int .u32 3210313671)))) :: (28, 1, (.const (.val (.int .u32 3336571891)))) :: (29, 1, (.const (.val (.int .u32 3584528711)))) :: (30, 1, (.const (.val (.int .u32 113926993)))) :: (31, 1, (.const (.val (.int .u32 338241895)))) :: (32, 1, (.const (.val (.int .u32 666307205)))) :: (33, 1, (.const (.val (.int .u32 773529912)))) :: (34, 1, (.const (.val (.int .u32 1294757372)))) :: (35, 1, (.const (.val (.int .u32 1396182291)))) :: (36, 1, (.const (.val (.int .u32 1695183700)))) :: (37, 1, (.const (.val (.int .u32 1986661051)))) :: (38, 1, (.const (.val (.int .u32 2177026350)))) :: (39, 1, (.const (.val (.int .u32 2456956037)))) :: (40, 1, (.const (.val (.int .u32 2730485921)))) :: (41, 1, (.const (.val (.int .u32 2820302411)))) :: (42, 1, (.const (.val (.int .u32 3259730800)))) :: (43, 1, (.const (.val (.int .u32 3345764771)))) :: (44, 1, (.const (.val (.int .u32 3516065817)))) :: (45, 1, (.const (.val (.int .u32 3600352804)))) :: (46, 1, (.const (.val (.int .u32 4094571909)))) :: (47, 1, (.const (.val (.int .u32 275423344)))) :: (48, 1, (.const (.val (.int .u32 430227734)))) :: (49, 1, (.const (.val (.int .u32 506948616)))) :: (50, 1, (.const (.val (.int .u32 659060556)))) :: (51, 1, (.const (.val (.int .u32 883997877)))) :: (52, 1, (.const (.val (.int .u32 958139571)))) :: (53, 1, (.const (.val (.int .u32 1322822218)))) :: (54, 1, (.const (.val (.int .u32 1537002063)))) :: (55, 1, (.const (.val (.int .u32 1747873779)))) :: (56, 1, (.const (.val (.int .u32 1955562222)))) :: (57, 1, (.const (.val (.int .u32 2024104815)))) :: (58, 1, (.const (.val (.int .u32 2227730452)))) :: (59, 1, (.const (.val (.int .u32 2361852424)))) :: (60, 1, (.const (.val (.int .u32 2428436474)))) :: (61, 1, (.const (.val (.int .u32 2756734187)))) :: (62, 1, (.const (.val (.int .u32 3204031479)))) :: (63, 1, (.const (.val (.int .u32 3329325298)))) :: []))⟩,
 y 64 0 1] [1])
 .ret))⟩
theorem H.q3h : Has P F.q3h C.q3h := ⟨Tryz.f203, Tryz.func203, by kernel_rfl, by kernel_rfl⟩
noncomputable def C.q0o : MFunc := ⟨52, 1, [.tmp 2],
 (s (r [
 ⟨some 1, none, .box T.apiValue (t 0)⟩,
 b 2 false] [])
 (s (s (r [
 g 4 0 1,
 l 5 4] [4])
 (.block 0 (s (r [
 v 7 (.bin .eql T.int (t 5) (c 1)),
 m 6 7] [7])
 (d 6
 (s (r [
 g 8 2 1,
 l 9 8,
 ⟨some 10, none, .val (.bin .eql T.string (t 9) (.const (.val (.string ⟨#[]⟩))))⟩,
 m 11 10,
 w 12 11 (G 3 1),
 w 13 11 (D 12),
 w 14 11 (n 13),
 w 15 11 (.bin .eql T.int (t 14) (c 0)),
 v 16 (k 11 15),
 m 2 16] [8, 9, 10, 11, 12, 13, 14, 15, 16])
 .ret)
 (s (r [
 v 18 (.bin .eql T.int (t 5) (c 2)),
 m 17 18] [18])
 (d 17
 (s (r [
 g 19 1 1,
 l 20 19,
 v 21 (.bin .eql T.int (t 20) (c 0)),
 m 22 21,
 w 23 22 (G 3 1),
 w 24 22 (D 23),
 w 25 22 (n 24),
 w 26 22 (.bin .eql T.int (t 25) (c 0)),
 v 27 (k 22 26),
 m 2 27] [19, 20, 21, 22, 23, 24, 25, 26, 27])
 .ret)
 (s (r [
 v 29 (.bin .eql T.int (t 5) (c 3)),
 m 28 29] [29])
 (d 28
 (s (s (r [
 i 3 0] [])
 (.block 1 (.loop (s (s (r [
 m 30 3,
 g 31 3 1,
 l 32 31,
 v 33 (n 32),
 v 34 (A 30 33)] [30, 31, 32, 33])
 (d 34
 .skip
 (.exit 1)))
 (s (.block 2 (s (r [
 g 37 3 1,
 l 38 37,
 m 39 3,
 v 40 (I 4 38 39),
 L 41 4 40,
 f 42 F.q0o [(t 41)],
 v 43 (N 42)] [37, 38, 39, 40, 41, 42])
 (d 43
 (s (r [
 b 2 false] [])
 .ret)
 .skip)))
 (r [
 m 35 3,
 v 36 (p 35 1),
 m 3 36] [35, 36]))))))
 (s (r [
 g 44 1 1,
 l 45 44,
 v 46 (.bin .eql T.int (t 45) (c 0)),
 m 47 46,
 w 48 47 (G 2 1),
 w 49 47 (D 48),
 ⟨some 50, some (47, true), .val (.bin .eql T.string (t 49) (.const (.val (.string ⟨#[]⟩))))⟩,
 v 51 (k 47 50),
 m 2 51] [44, 45, 46, 47, 48, 49, 50, 51])
 .ret))
 .skip))))))))
 (s (r [
 b 2 false] [])
 .ret)))⟩
theorem H.q0o : Has P F.q0o C.q0o := ⟨Tryz.f204, Tryz.func204, by kernel_rfl, by kernel_rfl⟩
noncomputable def C.q0s : MFunc := ⟨25, 1, [.tmp 2],
 (s (r [
 ⟨some 1, none, .box T.apiValue (t 0)⟩,
 i 2 0] [])
 (s (s (r [
 g 5 0 1,
 l 6 5,
 v 7 (.bin .neq T.int (t 6) (c 3))] [5, 6])
 (d 7
 (s (r [
 i 2 0] [])
 .ret)
 .skip))
 (s (r [
 i 3 0] [])
 (s (s (r [
 i 4 0] [])
 (.block 0 (.loop (s (s (r [
 m 8 4,
 g 9 3 1,
 l 10 9,
 v 11 (n 10),
 v 12 (A 8 11)] [8, 9, 10, 11])
 (d 12
 .skip
 (.exit 0)))
 (s (.block 1 (r [
 m 15 3,
 g 16 3 1,
 l 17 16,
 m 18 4,
 v 19 (I 4 17 18),
 L 20 4 19,
 f 21 F.q0s [(t 20)],
 v 22 (.minmax true [(t 15), (t 21)]),
 m 3 22] [15, 16, 17, 18, 19, 20, 21, 22]))
 (r [
 m 13 4,
 v 14 (p 13 1),
 m 4 14] [13, 14]))))))
 (s (r [
 m 23 3,
 v 24 (p 23 1),
 m 2 24] [23, 24])
 .ret)))))⟩
theorem H.q0s : Has P F.q0s C.q0s := ⟨Tryz.f205, Tryz.func205, by kernel_rfl, by kernel_rfl⟩
noncomputable def C.q1l : MFunc := ⟨17, 1, [.tmp 2],
 (s (r [
 v 2 (.mv (.const .nil))] [])
 (s (s (r [
 m 3 0,
 v 4 (.bin .lss T.uint64 (t 3) (.const (.val (.int .u64 128))))] [3])
 (d 4
 (s (r [
 m 5 0,
 v 6 (.toInt .u8 (t 5)),
 v 7 (.buildSlice T.uint8 1 [(.val (.int .u8 0))] [(0, 1, (t 6))]),
 m 2 7] [5, 6, 7])
 .ret)
 .skip))
 (s (r [
 m 8 0,
 v 9 (.bin .rem T.uint64 (t 8) (.const (.val (.int .u64 128)))),
 v 10 (.bin .add T.uint64 (t 9) (.const (.val (.int .u64 128)))),
 v 11 (.toInt .u8 (t 10)),
 v 12 (.buildSlice T.uint8 1 [(.val (.int .u8 0))] [(0, 1, (t 11))]),
 m 13 0,
 v 14 (.bin .quo T.uint64 (t 13) (.const (.val (.int .u64 128)))),
 f 15 F.q1l [(t 14)],
 ⟨some 16, none, .append T.uint8 1 1 (t 12) (t 15)⟩,
 m 2 16] [8, 9, 10, 11, 12, 13, 14, 15, 16])
 .ret)))⟩
theorem H.q1l : Has P F.q1l C.q1l := ⟨Tryz.f206, Tryz.func206, by kernel_rfl, by kernel_rfl⟩
noncomputable def C.q28 : MFunc := ⟨14, 1, [.tmp 2],
 (s (r [
 v 2 (.mv (.const (.val (.int .u64 0))))] [])
 (s (s (r [
 m 3 0,
 v 4 (.bin .geq T.int (t 3) (c 0))] [3])
 (d 4
 (s (r [
 m 5 0,
 v 6 (.toInt .u64 (t 5)),
 v 7 (.bin .mul T.uint64 (.const (.val (.int .u64 2))) (t 6)),
 m 2 7] [5, 6, 7])
 .ret)
 .skip))
 (s (r [
 m 8 0,
 v 9 (p 8 1),
 v 10 (.un .neg (t 9)),
 v 11 (.toInt .u64 (t 10)),
 v 12 (.bin .mul T.uint64 (.const (.val (.int .u64 2))) (t 11)),
 v 13 (.bin .add T.uint64 (t 12) (.const (.val (.int .u64 1)))),
 m 2 13] [8, 9, 10, 11, 12, 13])
 .ret)))⟩
theorem H.q28 : Has P F.q28 C.q28 := ⟨Tryz.f207, Tryz.func207, by kernel_rfl, by kernel_rfl⟩
end Go.Proofs.YtnooplpbpfiapaaGreatDoor
