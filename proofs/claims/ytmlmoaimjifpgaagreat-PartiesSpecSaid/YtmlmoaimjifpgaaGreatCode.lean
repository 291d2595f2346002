/- The compact code of this seat's functions (printed by a program of ours out of the translation; each is checked against the loaded program). -/
import Derived.Test.YtmlmoaimjifpgaaGreatProg
import Derived.Test.YtmlmoaimjifpgaaGreatLRd
set_option maxRecDepth 100000
namespace Go.Proofs.YtmlmoaimjifpgaaGreat
open Go.Pv
noncomputable abbrev P:Program:=Tryz.prog
theorem q5n:P.follows .mixedOrders=true:=by kernel_rfl
namespace T
abbrev int:Nat:=3
abbrev bool:Nat:=4
abbrev uint8:Nat:=5
abbrev string:Nat:=9
abbrev apiNet:Nat:=26
abbrev apiRoom:Nat:=28
abbrev apiEvent:Nat:=30
abbrev apiDecision:Nat:=32
abbrev apiNote:Nat:=34
abbrev apiMove:Nat:=36
abbrev apiErrno:Nat:=39
abbrev apiContest:Nat:=57
abbrev apiPeer:Nat:=60
abbrev apiWorld:Nat:=67
abbrev Luint8:Nat:=79
abbrev apiPacket:Nat:=98
abbrev q49:Nat:=104
abbrev q47:Nat:=107
abbrev q48:Nat:=146
abbrev apiValue:Nat:=150
abbrev t2int:Nat:=169
abbrev networklink:Nat:=170
abbrev Lint_2:Nat:=174
abbrev int_2:Nat:=177
abbrev uint:Nat:=188
abbrev q5a:Nat:=193
abbrev recordkind:Nat:=196
abbrev q5b:Nat:=215
abbrev t9int:Nat:=219
abbrev q5c:Nat:=225
abbrev codecwriter:Nat:=239
abbrev q5d:Nat:=242
abbrev uint64:Nat:=251
abbrev q5e:Nat:=271
abbrev t4bool:Nat:=282
end T
namespace F
abbrev q2b:Nat:=3
abbrev q3t:Nat:=10
abbrev q37:Nat:=11
abbrev q0h:Nat:=12
abbrev q0o:Nat:=13
abbrev q2k:Nat:=14
abbrev q2r:Nat:=15
abbrev q1i:Nat:=16
abbrev q1w:Nat:=17
abbrev q27:Nat:=18
abbrev q4d:Nat:=21
abbrev q3c:Nat:=23
abbrev q3d:Nat:=25
abbrev q1e:Nat:=29
abbrev q3l:Nat:=33
abbrev q34:Nat:=34
abbrev q4e:Nat:=35
abbrev q2c:Nat:=36
abbrev q1p:Nat:=37
abbrev q38:Nat:=38
abbrev q03:Nat:=39
abbrev q1j:Nat:=40
abbrev q0s:Nat:=41
abbrev q1k:Nat:=42
abbrev q07:Nat:=43
abbrev q08:Nat:=44
abbrev q1l:Nat:=45
abbrev q12:Nat:=46
abbrev q2u:Nat:=47
abbrev q1h:Nat:=48
abbrev q2d:Nat:=49
abbrev q1z:Nat:=50
abbrev q4r:Nat:=51
abbrev q39:Nat:=52
abbrev q3r:Nat:=53
abbrev q3s:Nat:=54
abbrev q16:Nat:=55
abbrev q2m:Nat:=56
abbrev q1r:Nat:=57
abbrev q3u:Nat:=58
abbrev q0e:Nat:=60
abbrev q24:Nat:=61
abbrev q2y:Nat:=62
abbrev q0b:Nat:=63
abbrev q25:Nat:=64
abbrev q0i:Nat:=65
abbrev q3e:Nat:=66
abbrev q0d:Nat:=67
abbrev q3f:Nat:=68
abbrev q19:Nat:=71
abbrev q0l:Nat:=72
abbrev q09:Nat:=73
abbrev q0p:Nat:=74
abbrev q3m:Nat:=75
abbrev q1c:Nat:=78
abbrev q2v:Nat:=79
abbrev q4m:Nat:=80
abbrev q4n:Nat:=81
abbrev q4j:Nat:=82
abbrev q26:Nat:=83
abbrev q2a:Nat:=84
abbrev q1f:Nat:=85
abbrev q1s:Nat:=86
abbrev q1y:Nat:=87
abbrev q1u:Nat:=88
abbrev q2e:Nat:=89
abbrev q13:Nat:=90
abbrev q14:Nat:=91
abbrev q10:Nat:=92
abbrev q35:Nat:=93
abbrev q29:Nat:=94
abbrev q2n:Nat:=95
abbrev q20:Nat:=96
abbrev q2f:Nat:=97
abbrev q1q:Nat:=98
abbrev q1x:Nat:=99
abbrev q2q:Nat:=100
abbrev q28:Nat:=101
abbrev q0w:Nat:=102
abbrev q2s:Nat:=103
abbrev q31:Nat:=104
abbrev q2w:Nat:=105
abbrev q17:Nat:=106
abbrev q4o:Nat:=107
abbrev q3v:Nat:=108
abbrev q2x:Nat:=109
abbrev q2g:Nat:=110
abbrev q3a:Nat:=111
abbrev q3w:Nat:=112
abbrev q2l:Nat:=113
abbrev q0y:Nat:=115
abbrev q3x:Nat:=116
abbrev q0t:Nat:=117
abbrev q36:Nat:=118
abbrev q0z:Nat:=119
abbrev q4k:Nat:=120
abbrev q4a:Nat:=121
abbrev q21:Nat:=125
abbrev q22:Nat:=126
abbrev q3y:Nat:=127
abbrev q1m:Nat:=128
abbrev q3b:Nat:=129
abbrev q3z:Nat:=130
abbrev q30:Nat:=131
abbrev q3g:Nat:=132
abbrev q32:Nat:=133
abbrev q42:Nat:=134
abbrev q3h:Nat:=135
abbrev q43:Nat:=136
abbrev q4l:Nat:=137
abbrev q3i:Nat:=138
abbrev q44:Nat:=139
abbrev q23:Nat:=140
abbrev q15:Nat:=141
abbrev q0j:Nat:=142
abbrev q0g:Nat:=143
abbrev q0x:Nat:=144
abbrev q1n:Nat:=145
abbrev q4i:Nat:=146
abbrev q33:Nat:=147
abbrev q1v:Nat:=148
abbrev q3j:Nat:=149
abbrev q3k:Nat:=150
abbrev q3n:Nat:=151
abbrev q01:Nat:=152
abbrev q2z:Nat:=153
abbrev q06:Nat:=154
abbrev q04:Nat:=155
abbrev q4f:Nat:=156
abbrev q1g:Nat:=157
abbrev q0r:Nat:=158
abbrev q0k:Nat:=160
abbrev q0c:Nat:=161
abbrev q0f:Nat:=162
abbrev q0a:Nat:=163
abbrev q4s:Nat:=164
abbrev q4b:Nat:=165
abbrev q05:Nat:=166
abbrev q41:Nat:=167
abbrev q4w:Nat:=168
abbrev q4y:Nat:=169
abbrev q4x:Nat:=170
abbrev q4u:Nat:=171
abbrev q4v:Nat:=172
abbrev q40:Nat:=173
abbrev q46:Nat:=174
abbrev q4c:Nat:=175
abbrev q1o:Nat:=176
abbrev q1b:Nat:=181
abbrev q3o:Nat:=182
abbrev q0m:Nat:=183
abbrev q0q:Nat:=184
abbrev q1t:Nat:=185
abbrev q11:Nat:=186
abbrev q4t:Nat:=187
abbrev q45:Nat:=188
abbrev q18:Nat:=189
abbrev q00:Nat:=190
abbrev q4p:Nat:=191
abbrev q2h:Nat:=192
abbrev q2i:Nat:=193
abbrev q2t:Nat:=194
abbrev q0v:Nat:=195
abbrev q1d:Nat:=196
abbrev q1a:Nat:=197
abbrev q02:Nat:=198
abbrev q2j:Nat:=199
abbrev q2o:Nat:=200
abbrev q4g:Nat:=201
abbrev q4h:Nat:=202
abbrev q4z:Nat:=203
abbrev q2p:Nat:=204
abbrev q4q:Nat:=210
abbrev q3p:Nat:=212
abbrev q0u:Nat:=214
abbrev q0n:Nat:=215
abbrev q3q:Nat:=217
end F
namespace Z
abbrev t (n:Nat):MX:=.tmp n
abbrev c (n:Int):MX:=.const (.int n)
abbrev v (d:Nat)(x:MVal):MInst:=⟨some d,none,.val x⟩
abbrev w (d g:Nat)(x:MVal):MInst:=⟨some d,some (g,true),.val x⟩
abbrev z (d g:Nat)(x:MVal):MInst:=⟨some d,some (g,false),.val x⟩
abbrev m (d s:Nat):MInst:=⟨some d,none,.val (.mv (.tmp s))⟩
abbrev i (d:Nat)(n:Int):MInst:=⟨some d,none,.val (.mv (.const (.int n)))⟩
abbrev b (d:Nat)(x:Bool):MInst:=⟨some d,none,.val (.mv (.const (.bool x)))⟩
abbrev g (d k s:Nat):MInst:=⟨some d,none,.val (.fieldAddr k (.tmp s))⟩
abbrev l (d s:Nat):MInst:=⟨some d,none,.val (.load 1 false (.tmp s))⟩
abbrev L (d k s:Nat):MInst:=⟨some d,none,.val (.load k true (.tmp s))⟩
abbrev x (d k s:Nat):MInst:=⟨some d,none,.val (.extract k (.tmp s))⟩
abbrev y (k a b:Nat):MInst:=⟨none,none,.store k (.tmp a) (.tmp b)⟩
abbrev f (d:Nat)(n:FuncId)(u:List MX):MInst:=⟨some d,none,.call (.const (.func (.func n) [] [])) u⟩
abbrev p (a:Nat)(n:Int):MVal:=.bin .add T.int (.tmp a) (.const (.int n))
abbrev k (a b:Nat):MVal:=.pick (.tmp a) (.tmp b) (.const (.bool false))
abbrev j (a b:Nat):MVal:=.pick (.tmp a) (.const (.bool true)) (.tmp b)
abbrev I (k a b:Nat):MVal:=.indexAddr k (.tmp a) (.tmp b)
abbrev n (a:Nat):MVal:=.len (.tmp a)
abbrev G (k a:Nat):MVal:=.fieldAddr k (.tmp a)
abbrev D (a:Nat):MVal:=.load 1 false (.tmp a)
abbrev E (k a:Nat):MVal:=.load k true (.tmp a)
abbrev M (a:Nat):MVal:=.mv (.tmp a)
abbrev N (a:Nat):MVal:=.un .not (.tmp a)
abbrev A (a b:Nat):MVal:=.bin .lss T.int (.tmp a) (.tmp b)
abbrev B (a b:Nat):MVal:=.bin .eql T.int (.tmp a) (.tmp b)
abbrev s (a b:MCode):MCode:=.seq a b
abbrev d (n:Nat)(a b:MCode):MCode:=.cond (.tmp n) a b
abbrev a (x:MInst):DFlag × MInst:=(.late,x)
abbrev e (x:MInst):DFlag × MInst:=(.early,x)
abbrev h (x:MInst):DFlag × MInst:=(.hard,x)
abbrev o (k:List PV):List PV:=.val (.int .u8 0)::.val (.int .u8 0)::.val (.int .u8 0)::.val (.int .u8 0)::.val (.int .u8 0)::.val (.int .u8 0)::.val (.int .u8 0)::.val (.int .u8 0)::.val (.int .u8 0)::.val (.int .u8 0)::.val (.int .u8 0)::.val (.int .u8 0)::.val (.int .u8 0)::.val (.int .u8 0)::.val (.int .u8 0)::.val (.int .u8 0)::.val (.int .u8 0)::.val (.int .u8 0)::.val (.int .u8 0)::.val (.int .u8 0)::.val (.int .u8 0)::.val (.int .u8 0)::.val (.int .u8 0)::.val (.int .u8 0)::.val (.int .u8 0)::.val (.int .u8 0)::.val (.int .u8 0)::.val (.int .u8 0)::.val (.int .u8 0)::.val (.int .u8 0)::.val (.int .u8 0)::.val (.int .u8 0)::k
abbrev r (is:List MInst)(k:List Nat):MCode:=.region is k
abbrev q0:List PV:=[(.int 0),(.int 0),(.int 0),(.int 0),(.int 0),(.int 0),(.int 0),(.int 0),(.int 0),(.int 0),(.int 0),(.int 0),(.int 0),(.int 0),(.int 0),(.int 0),(.int 0),(.int 0),(.int 0),(.int 0),(.int 0),(.int 0),(.int 0),(.int 0),(.int 0),(.int 0),(.int 0),(.int 0)]
abbrev q1:List PV:=[(.int 0),(.int 0),(.int 0),(.int 0),(.int 0),(.int 0),(.int 0),(.int 0),(.int 0),(.int 0),(.int 0),(.int 0),(.int 0),(.int 0),(.int 0),(.int 0),(.int 0),(.int 0),(.int 0),(.int 0),(.int 0),(.int 0),(.int 0),(.int 0)]
abbrev q2:List PV:=[(.int 0),(.int 0),(.int 0),(.int 0),(.int 0),(.int 0),(.int 0),(.int 0),(.int 0),(.int 0),(.int 0),(.int 0),(.int 0),(.int 0)]
abbrev q3:List PV:=[(.int 0),(.int 0),(.int 0),(.int 0),(.int 0),(.int 0),(.int 0),(.int 0),(.int 0)]
abbrev q4:List PV:=[(.int 0),(.int 0),.nil]
abbrev q5:List PV:=[(.int 0),(.int 0)]
abbrev q6:List PV:=[.nil,.nil,.nil]
end Z
open Z
noncomputable def C.q2b:MFunc:=⟨67,3,[.tmp 6],
 (s (r [
 ⟨some 4,none,.box T.apiRoom (t 1)⟩,
 ⟨some 5,none,.box T.apiMove (t 2)⟩,
 b 6 false] [])
 (s (s (r [
 f 15 F.q3t [],
 v 16 (N 15)] [15])
 (d 16
 (s (r [
 b 6 false] [])
 .ret)
 .skip))
 (s (s (r [
 L 17 3 4,
 f 18 F.q37 [(t 17)],
 v 19 (N 18)] [17,18])
 (d 19
 (s (r [
 b 6 true] [])
 .ret)
 .skip))
 (s (r [
 L 21 3 4,
 L 22 28 5,
 f 23 F.q0h [(t 21),(t 22)],
 m 20 23,
 x 24 0 20,
 x 25 1 20,
 ⟨some 7,none,.alloc T.apiRoom q6⟩,
 y 3 7 24,
 m 8 25] [21,22,23,20,24,25])
 (s (r [
 L 27 3 4,
 L 28 28 5,
 f 29 F.q0o [(t 27),(t 28)],
 m 26 29,
 x 30 0 26,
 x 31 1 26,
 ⟨some 9,none,.alloc T.apiRoom q6⟩,
 y 3 9 30,
 m 10 31] [27,28,29,26,30,31])
 (s (r [
 m 33 0,
 f 34 F.q2k [(t 33)],
 m 32 34,
 x 35 0 32,
 x 36 1 32,
 ⟨some 11,none,.alloc T.apiRoom q6⟩,
 y 3 11 35,
 m 12 36] [33,34,32,35,36])
 (s (r [
 m 38 0,
 f 39 F.q2r [(t 38)],
 m 37 39,
 x 40 0 37,
 x 41 1 37,
 ⟨some 13,none,.alloc T.apiRoom q6⟩,
 y 3 13 40,
 m 14 41] [38,39,37,40,41])
 (s (.draw true [
 e (L 42 3 4),
 a (L 44 3 4),
 h (f 43 F.q1i [(t 42)]),
 h (f 45 F.q1w [(t 44)]),
 a (v 46 (.bin .eql T.apiErrno (t 43) (t 45))),
 a (m 47 46),
 a (w 48 47 (M 8)),
 a (w 49 47 (M 10)),
 a (w 50 47 (.bin .eql T.apiErrno (t 48) (t 49))),
 a (v 51 (k 47 50)),
 a (m 52 51),
 a (w 53 52 (E 3 7)),
 a (w 54 52 (E 3 9)),
 h (⟨some 55,some (52,true),.call (.const (.func (.func F.q27) [] [])) [(t 53),(t 54)]⟩),
 a (v 56 (k 52 55)),
 a (m 57 56),
 a (w 58 57 (M 12)),
 a (w 59 57 (M 14)),
 a (w 60 57 (.bin .eql T.apiErrno (t 58) (t 59))),
 a (v 61 (k 57 60)),
 a (m 62 61),
 a (w 63 62 (E 3 11)),
 a (w 64 62 (E 3 13)),
 h (⟨some 65,some (62,true),.call (.const (.func (.func F.q27) [] [])) [(t 63),(t 64)]⟩),
 a (v 66 (k 62 65)),
 a (m 6 66)] [42,43,44,45,46,47,48,49,50,51,52,53,54,55,56,57,58,59,60,61,62,63,64,65,66])
 .ret))))))))⟩
theorem H.q2b:Has P F.q2b C.q2b:=⟨Tryz.f3,Tryz.func3,by kernel_rfl,by kernel_rfl⟩
noncomputable def C.q3t:MFunc:=⟨235,0,[.tmp 0],
 (s (r [
 b 0 false] [])
 (s (r [
 f 24 F.q2k [(c 2)],
 m 23 24,
 x 25 0 23,
 x 26 1 23,
 ⟨some 1,none,.alloc T.apiRoom q6⟩,
 y 3 1 25,
 m 2 26] [24,23,25,26])
 (s (r [
 f 28 F.q2k [(c 0)],
 m 27 28,
 x 29 0 27,
 x 30 1 27,
 ⟨some 3,none,.alloc T.apiRoom q6⟩,
 y 3 3 29,
 m 4 30] [28,27,29,30,3])
 (s (.draw true [
 a (L 32 3 1),
 a (f 33 F.q2c [(c 3),(c 5)]),
 a (v 34 (.build q0 [(0,1,(c 1)),(1,1,(c 1)),(4,24,(t 33))])),
 a (f 35 F.q0h [(t 32),(t 34)]),
 a (m 31 35),
 a (x 36 0 31),
 a (x 37 1 31),
 h (⟨some 5,none,.alloc T.apiRoom q6⟩),
 (.last,y 3 5 36),
 a (m 6 37)] [32,33,34,35,31,36,37])
 (s (r [
 L 39 3 1,
 v 40 (.build q0 [(0,1,(c 1))]),
 f 41 F.q0h [(t 39),(t 40)],
 m 38 41,
 x 42 0 38,
 x 43 1 38,
 ⟨some 7,none,.alloc T.apiRoom q6⟩,
 y 3 7 42,
 m 8 43] [39,40,41,38,42,43,7])
 (s (r [
 L 45 3 1,
 v 46 (.build q0 [(0,1,(c 3))]),
 f 47 F.q0h [(t 45),(t 46)],
 m 44 47,
 x 48 0 44,
 x 49 1 44,
 ⟨some 9,none,.alloc T.apiRoom q6⟩,
 y 3 9 48,
 m 10 49] [45,46,47,44,48,49,9])
 (s (r [
 L 51 3 5,
 v 52 (.build q0 [(0,1,(c 3))]),
 f 53 F.q0h [(t 51),(t 52)],
 m 50 53,
 x 54 0 50,
 x 55 1 50,
 ⟨some 11,none,.alloc T.apiRoom q6⟩,
 y 3 11 54,
 m 12 55] [51,52,53,50,54,55])
 (s (s (.region (
 m 56 2 ::
 v 57 (.bin .neq T.apiErrno (t 56) (c 0)) ::
 m 58 57 ::
 z 59 58 (G 0 1) ::
 z 60 58 (D 59) ::
 z 61 58 (n 60) ::
 z 62 58 (.bin .neq T.int (t 61) (c 2)) ::
 v 63 (j 58 62) ::
 m 64 63 ::
 z 65 64 (M 4) ::
 z 66 64 (.bin .neq T.apiErrno (t 65) (c 1)) ::
 v 67 (j 64 66) ::
 m 68 67 ::
 z 69 68 (M 6) ::
 z 70 68 (.bin .neq T.apiErrno (t 69) (c 0)) ::
 v 71 (j 68 70) ::
 m 72 71 ::
 z 73 72 (G 0 5) ::
 z 74 72 (D 73) ::
 z 75 72 (n 74) ::
 z 76 72 (.bin .neq T.int (t 75) (c 2)) ::
 v 77 (j 72 76) ::
 m 78 77 ::
 z 79 78 (M 8) ::
 z 80 78 (.bin .neq T.apiErrno (t 79) (c 580)) ::
 v 81 (j 78 80) ::
 m 82 81 ::
 z 83 82 (M 10) ::
 z 84 82 (.bin .neq T.apiErrno (t 83) (c 1)) ::
 v 85 (j 82 84) ::
 m 86 85 ::
 z 87 86 (M 12) ::
 z 88 86 (.bin .neq T.apiErrno (t 87) (c 0)) ::
 v 89 (j 86 88) ::
 m 90 89 ::
 z 91 90 (G 0 11) ::
 z 92 90 (D 91) ::
 z 93 90 (n 92) ::
 z 94 90 (.bin .neq T.int (t 93) (c 2)) ::
 v 95 (j 90 94)::[]) (56::57::58::59::60::61::62::63::64::65::66::67::68::69::70::71::72::73::74::75::76::77::78::79::80::81::82::83::84::85::86::87::88::89::90::91::92::93::94::[]))
 (d 95
 (s (r [
 b 0 false] [])
 .ret)
 .skip))
 (s (r [
 f 96 F.q2c [(c 3),(c 5)],
 v 97 (.buildSlice T.apiNote 1 q1 [(0,24,(t 96))]),
 m 13 97] [96,97])
 (s (.draw true (
 e (g 98 1 5) ::
 e (g 99 0 98) ::
 e (l 100 99) ::
 e (v 101 (n 100)) ::
 e (v 102 (.bin .eql T.int (t 101) (c 1))) ::
 e (m 103 102) ::
 a (w 104 103 (G 1 5)) ::
 a (w 105 103 (G 0 104)) ::
 a (w 106 103 (D 105)) ::
 a (w 107 103 (.indexAddr 3 (t 106) (c 0))) ::
 a (w 108 103 (G 2 107)) ::
 a (w 109 103 (D 108)) ::
 a (w 110 103 (.strOf (t 109))) ::
 h (⟨some 111,some (103,true),.call (.const (.func (.func F.q2c) [] [])) [(c 3),(c 5)]⟩) ::
 h (⟨some 112,some (103,true),.call (.const (.func (.func F.q1p) [] [])) [(t 111)]⟩) ::
 a (w 113 103 (.strOf (t 112))) ::
 a (w 114 103 (.bin .eql T.string (t 110) (t 113))) ::
 a (v 115 (k 103 114)) ::
 a (m 116 115) ::
 a (w 117 116 (G 0 5)) ::
 a (w 118 116 (D 117)) ::
 a (w 119 116 (.indexAddr 1 (t 118) (c 1))) ::
 a (w 120 116 (G 0 119)) ::
 a (w 121 116 (D 120)) ::
 a (w 122 116 (M 13)) ::
 h (⟨some 123,some (116,true),.call (.const (.func (.func F.q1e) [] [])) [(t 121),(t 122)]⟩) ::
 a (v 124 (k 116 123)) ::
 a (m 125 124) ::
 a (w 126 125 (G 0 5)) ::
 a (w 127 125 (D 126)) ::
 a (w 128 125 (.indexAddr 1 (t 127) (c 0))) ::
 a (w 129 125 (G 0 128)) ::
 a (w 130 125 (D 129)) ::
 a (w 131 125 (n 130)) ::
 a (w 132 125 (.bin .eql T.int (t 131) (c 0))) ::
 a (v 133 (k 125 132)) ::
 a (m 14 133)::[]) (98::99::100::101::102::103::104::105::106::107::108::109::110::111::112::113::114::115::116::117::118::119::120::121::122::123::124::125::126::127::128::129::130::131::132::133::[]))
 (s (r [
 ⟨some 135,none,.val (.build ((.val (.string ⟨#[]⟩))::.nil::.nil::.nil::.nil::.nil::.nil::.nil::.int 0::.nil::.nil::.nil::o ([])) [])⟩,
 g 136 0 11,
 l 137 136,
 v 138 (.indexAddr 1 (t 137) (c 0)),
 L 139 1 138,
 f 140 F.q4d [(t 135),(t 139)],
 m 134 140,
 x 141 0 134,
 x 142 1 134,
 ⟨some 15,none,.alloc T.apiWorld ((.val (.string ⟨#[]⟩))::.nil::.nil::.nil::.nil::.nil::.nil::.nil::.int 0::.nil::.nil::.nil::o (.nil::.nil::[]))⟩,
 y 46 15 141,
 m 16 142] [135,136,137,138,139,140,134,141,142])
 (s (r [
 g 144 0 11,
 l 145 144,
 v 146 (.indexAddr 1 (t 145) (c 0)),
 L 147 1 146,
 f 148 F.q3c [(t 147)],
 m 143 148,
 x 149 0 143,
 x 150 1 143,
 m 17 149,
 m 18 150] [144,145,146,147,148,143,149,150])
 (s (r [
 v 152 (.buildSlice T.Luint8 0 [] []),
 m 153 17,
 ⟨some 154,none,.append T.Luint8 24 1 (t 152) (t 153)⟩,
 m 155 17,
 ⟨some 156,none,.append T.Luint8 24 1 (t 154) (t 155)⟩,
 f 157 F.q3d [(t 156)],
 m 151 157,
 x 158 0 151,
 x 159 1 151,
 ⟨some 19,none,.alloc T.apiPeer [.nil]⟩,
 y 1 19 158,
 m 20 159] [152,153,154,155,156,157,151,158,159])
 (s (r [
 v 161 (.buildSlice T.Luint8 1 [.nil] [(0,1,(.const .nil))]),
 f 162 F.q3d [(t 161)],
 m 160 162,
 x 163 0 160,
 x 164 1 160,
 ⟨some 21,none,.alloc T.apiPeer [.nil]⟩,
 y 1 21 163,
 m 22 164] [161,162,160,163,164,21])
 (s (r [
 m 165 14,
 m 166 165,
 w 167 166 (G 0 11),
 w 168 166 (D 167),
 w 169 166 (.indexAddr 1 (t 168) (c 0)),
 w 170 166 (G 0 169),
 w 171 166 (D 170),
 w 172 166 (M 13),
 ⟨some 173,some (166,true),.call (.const (.func (.func F.q1e) [] [])) [(t 171),(t 172)]⟩,
 v 174 (k 166 173),
 m 175 174,
 w 176 175 (G 1 11),
 w 177 175 (G 0 176),
 w 178 175 (D 177),
 w 179 175 (n 178),
 w 180 175 (.bin .eql T.int (t 179) (c 0)),
 v 181 (k 175 180),
 m 182 181,
 w 183 182 (.build q6 []),
 ⟨some 184,some (182,true),.call (.const (.func (.func F.q1i) [] [])) [(t 183)]⟩,
 w 185 182 (.bin .eql T.apiErrno (t 184) (c 580)),
 v 186 (k 182 185),
 m 187 186,
 w 188 187 (E 3 11),
 ⟨some 189,some (187,true),.call (.const (.func (.func F.q1i) [] [])) [(t 188)]⟩,
 w 190 187 (.bin .eql T.apiErrno (t 189) (c 0)),
 v 191 (k 187 190),
 m 14 191] [165,166,167,168,169,170,171,172,173,174,175,176,177,178,179,180,181,182,183,184,185,186,187,188,189,190,191])
 (s (.draw true (
 e (m 192 14) ::
 e (m 193 192) ::
 e (w 194 193 (M 16)) ::
 e (w 195 193 (.bin .eql T.apiErrno (t 194) (c 0))) ::
 e (v 196 (k 193 195)) ::
 e (m 197 196) ::
 e (w 198 197 (M 18)) ::
 e (w 199 197 (.bin .eql T.apiErrno (t 198) (c 0))) ::
 e (v 200 (k 197 199)) ::
 e (m 201 200) ::
 e (w 202 201 (M 20)) ::
 e (w 203 201 (.bin .eql T.apiErrno (t 202) (c 0))) ::
 e (v 204 (k 201 203)) ::
 e (m 205 204) ::
 e (w 206 205 (M 22)) ::
 e (w 207 205 (.bin .eql T.apiErrno (t 206) (c 580))) ::
 e (v 208 (k 205 207)) ::
 e (m 209 208) ::
 e (w 210 209 (G 44 15)) ::
 e (w 211 209 (D 210)) ::
 e (w 212 209 (n 211)) ::
 e (w 213 209 (.bin .eql T.int (t 212) (c 1))) ::
 e (v 214 (k 209 213)) ::
 e (m 215 214) ::
 a (w 216 215 (G 44 15)) ::
 a (w 217 215 (D 216)) ::
 a (w 218 215 (.indexAddr 9 (t 217) (c 0))) ::
 a (w 219 215 (E 9 218)) ::
 h (⟨some 220,some (215,true),.call (.const (.func (.func F.q2c) [] [])) [(c 3),(c 5)]⟩) ::
 a (w 221 215 (.field 1 9 true (t 220))) ::
 a (w 222 215 (.eqAgg false [.int,.int,.int,.int,.int,.int,.int,.int,.int] (t 219) (t 221))) ::
 a (v 223 (k 215 222)) ::
 a (m 224 223) ::
 a (w 225 224 (M 17)) ::
 a (w 226 224 (n 225)) ::
 a (w 227 224 (.bin .eql T.int (t 226) (c 1))) ::
 a (v 228 (k 224 227)) ::
 a (m 229 228) ::
 a (w 230 229 (G 0 19)) ::
 a (w 231 229 (D 230)) ::
 a (w 232 229 (M 13)) ::
 h (⟨some 233,some (229,true),.call (.const (.func (.func F.q1e) [] [])) [(t 231),(t 232)]⟩) ::
 a (v 234 (k 229 233)) ::
 a (m 0 234)::[]) (192::193::194::195::196::197::198::199::200::201::202::203::204::205::206::207::208::209::210::211::212::213::214::215::216::217::218::219::220::221::222::223::224::225::226::227::228::229::230::231::232::233::234::[]))
 .ret))))))))))))))))⟩
theorem H.q3t:Has P F.q3t C.q3t:=⟨Tryz.f10,Tryz.func10,by kernel_rfl,by kernel_rfl⟩
noncomputable def C.q37:MFunc:=⟨57,1,[.tmp 2],
 (s (r [
 ⟨some 1,none,.box T.apiRoom (t 0)⟩,
 b 2 false] [])
 (s (s (r [
 g 5 0 1,
 l 6 5,
 v 7 (n 6),
 v 8 (.bin .gtr T.int (t 7) (c 5)),
 m 9 8,
 w 10 9 (G 0 1),
 w 11 9 (D 10),
 w 12 9 (n 11),
 w 13 9 (.bin .leq T.int (t 12) (c 24)),
 v 14 (k 9 13),
 m 15 14,
 z 16 15 (G 1 1),
 z 17 15 (E 2 16),
 ⟨some 18,some (15,false),.call (.const (.func (.func F.q38) [] [])) [(t 17)]⟩,
 z 19 15 (N 18),
 v 20 (j 15 19)] [5,6,7,8,9,10,11,12,13,14,15,16,17,18,19])
 (d 20
 (s (r [
 b 2 false] [])
 .ret)
 .skip))
 (s (s (r [
 i 3 0] [])
 (.block 0 (.loop (s (s (r [
 m 21 3,
 g 22 0 1,
 l 23 22,
 v 24 (n 23),
 v 25 (A 21 24),
 m 26 25,
 w 27 26 (M 3),
 w 28 26 (.bin .lss T.int (t 27) (c 30)),
 v 29 (k 26 28)] [21,22,23,24,25,26,27,28])
 (d 29
 .skip
 (.exit 0)))
 (s (.block 1 (s (r [
 g 32 0 1,
 l 33 32,
 m 34 3,
 v 35 (I 1 33 34),
 g 36 0 35,
 l 37 36,
 v 38 (n 37),
 v 39 (.bin .gtr T.int (t 38) (c 30))] [32,33,34,35,36,37,38])
 (d 39
 (s (r [
 b 2 false] [])
 .ret)
 .skip)))
 (r [
 m 30 3,
 v 31 (p 30 1),
 m 3 31] [30,31]))))))
 (s (s (r [
 i 4 0] [])
 (.block 2 (.loop (s (s (r [
 m 40 4,
 g 41 1 1,
 g 42 0 41,
 l 43 42,
 v 44 (n 43),
 v 45 (A 40 44)] [40,41,42,43,44])
 (d 45
 .skip
 (.exit 2)))
 (s (.block 3 (s (r [
 g 48 1 1,
 g 49 0 48,
 l 50 49,
 m 51 4,
 v 52 (I 3 50 51),
 g 53 2 52,
 l 54 53,
 v 55 (n 54),
 v 56 (.bin .gtr T.int (t 55) (c 1000))] [48,49,50,51,52,53,54,55])
 (d 56
 (s (r [
 b 2 false] [])
 .ret)
 .skip)))
 (r [
 m 46 4,
 v 47 (p 46 1),
 m 4 47] [46,47]))))))
 (s (r [
 b 2 true] [])
 .ret)))))⟩
theorem H.q37:Has P F.q37 C.q37:=⟨Tryz.f11,Tryz.func11,by kernel_rfl,by kernel_rfl⟩
noncomputable def C.q0h:MDFunc:=⟨40,2,[4,5],[.cell 4 3 true,.cell 5 1 false],
 (.pre [] (r [
 ⟨some 2,none,.box T.apiRoom (t 0)⟩,
 ⟨some 3,none,.box T.apiMove (t 1)⟩,
 ⟨some 4,none,.alloc T.apiRoom q6⟩,
 ⟨some 5,none,.alloc T.apiErrno [(.int 0)]⟩] [])
 (.pre [] (r [
 L 10 3 2,
 f 11 F.q1i [(t 10)],
 m 6 11] [10,11])
 (.pre [] (r [
 m 12 6,
 v 13 (.bin .neq T.apiErrno (t 12) (c 0))] [12])
 (.pre [] (d 13
 (s (r [
 L 14 3 4,
 m 15 6,
 y 3 4 14,
 y 1 5 15] [14,15])
 .ret)
 .skip)
 (.pre [] (r [
 ⟨some 17,none,.mkMap⟩,
 ⟨none,none,.mapSet (false,[.int]) (t 17) (c 1) (.const (.func (.func F.q03) [] []))⟩,
 ⟨none,none,.mapSet (false,[.int]) (t 17) (c 2) (.const (.func (.func F.q1j) [] []))⟩,
 ⟨none,none,.mapSet (false,[.int]) (t 17) (c 3) (.const (.func (.func F.q0s) [] []))⟩,
 ⟨none,none,.mapSet (false,[.int]) (t 17) (c 4) (.const (.func (.func F.q1k) [] []))⟩,
 ⟨none,none,.mapSet (false,[.int]) (t 17) (c 5) (.const (.func (.func F.q07) [] []))⟩,
 m 18 17,
 g 19 0 3,
 l 20 19,
 v 21 (.lookup (false,[.int]) (.val .nilFunc) true (t 18) (t 20)),
 m 16 21,
 x 22 0 16,
 x 23 1 16,
 m 7 22,
 m 8 23] [17,18,19,20,21,16,22,23])
 (.pre [] (r [
 m 24 8,
 v 25 (N 24)] [24])
 (.pre [] (d 25
 (s (r [
 L 26 3 4,
 y 3 4 26,
 ⟨none,none,.store 1 (t 5) (c 1)⟩] [26])
 .ret)
 .skip)
 (.pushR [
 v 27 (.mkFunc (.func F.q08) [] [(t 4),(t 5)])] (t 27) []
 (.pre [] (r [
 L 28 3 2,
 v 29 (.build q6 [(0,3,(t 28))]),
 ⟨some 9,none,.alloc T.q47 q6⟩,
 y 3 9 29] [28,29])
 (.pre [] (r [
 g 30 0 2,
 l 31 30,
 f 32 F.q1l [(t 31)],
 g 33 0 9,
 g 34 0 33,
 y 1 34 32] [30,31,32,33,34])
 (.pre [] (r [
 m 35 7,
 L 36 28 3,
 ⟨some 37,none,.call (t 35) [(t 9),(t 36)]⟩] [35,36,37])
 (.pre [] (r [
 g 38 0 9,
 L 39 3 38,
 y 3 4 39,
 ⟨none,none,.store 1 (t 5) (c 0)⟩] [38,39])
 (.pre [] .ret
 .done)))))))))))))⟩
theorem H.q0h:HasD P F.q0h C.q0h:=⟨Tryz.f12,Tryz.func12,by kernel_rfl,by kernel_rfl⟩
noncomputable def C.q0o:MFunc:=⟨63,2,[.cell 4 3 true,.tmp 5],
 (s (r [
 ⟨some 2,none,.box T.apiRoom (t 0)⟩,
 ⟨some 3,none,.box T.apiMove (t 1)⟩,
 ⟨some 4,none,.alloc T.apiRoom q6⟩,
 i 5 0] [])
 (s (s (r [
 L 8 3 2,
 f 9 F.q1w [(t 8)],
 v 10 (.bin .neq T.apiErrno (t 9) (c 0))] [8,9])
 (d 10
 (s (r [
 v 11 (.build q6 []),
 y 3 4 11,
 i 5 580] [11])
 .ret)
 .skip))
 (s (r [
 L 12 3 2,
 ⟨some 6,none,.alloc T.apiRoom q6⟩,
 y 3 6 12] [12])
 (s (r [
 i 7 1] [])
 (s (s (r [
 g 13 0 3,
 l 14 13] [13])
 (.block 0 (s (r [
 v 16 (.bin .eql T.int (t 14) (c 1)),
 m 15 16] [16])
 (d 15
 (s (r [
 L 17 3 2,
 L 18 28 3,
 f 19 F.q12 [(t 17),(t 18)],
 x 20 0 19,
 x 21 1 19,
 y 3 4 20,
 m 5 21] [17,18,19,20,21])
 .ret)
 (s (r [
 v 23 (.bin .eql T.int (t 14) (c 2)),
 m 22 23] [23])
 (d 22
 (s (r [
 L 24 3 2,
 L 25 28 3,
 f 26 F.q2u [(t 24),(t 25)],
 x 27 0 26,
 x 28 1 26,
 y 3 4 27,
 m 5 28] [24,25,26,27,28])
 .ret)
 (s (r [
 v 30 (.bin .eql T.int (t 14) (c 3)),
 m 29 30] [30])
 (d 29
 (s (r [
 L 31 3 2,
 L 32 28 3,
 f 33 F.q1h [(t 31),(t 32)],
 x 34 0 33,
 x 35 1 33,
 y 3 4 34,
 m 5 35] [31,32,33,34,35])
 .ret)
 (s (r [
 v 37 (.bin .eql T.int (t 14) (c 4)),
 m 36 37] [37])
 (d 36
 (r [
 g 39 1 2,
 L 40 2 39,
 g 41 3 3,
 l 42 41,
 f 43 F.q2d [(t 40),(t 42)],
 m 38 43,
 x 44 0 38,
 x 45 1 38,
 g 46 1 6,
 y 2 46 44,
 m 7 45] [39,40,41,42,43,38,44,45,46])
 (s (r [
 v 48 (.bin .eql T.int (t 14) (c 5)),
 m 47 48] [48])
 (d 47
 (r [
 g 50 1 2,
 L 51 2 50,
 g 52 3 3,
 l 53 52,
 f 54 F.q1z [(t 51),(t 53)],
 m 49 54,
 x 55 0 49,
 x 56 1 49,
 g 57 1 6,
 y 2 57 55,
 m 7 56] [50,51,52,53,54,49,55,56,57])
 .skip))))))))))))
 (s (s (r [
 m 58 7,
 v 59 (.bin .neq T.apiErrno (t 58) (c 0))] [58])
 (d 59
 (s (r [
 v 60 (.build q6 []),
 m 61 7,
 y 3 4 60,
 m 5 61] [60,61])
 .ret)
 .skip))
 (s (r [
 L 62 3 6,
 y 3 4 62,
 i 5 0] [62])
 .ret)))))))⟩
theorem H.q0o:Has P F.q0o C.q0o:=⟨Tryz.f13,Tryz.func13,by kernel_rfl,by kernel_rfl⟩
noncomputable def C.q2k:MFunc:=⟨15,1,[.cell 2 3 true,.tmp 3],
 (s (r [
 ⟨some 2,none,.alloc T.apiRoom q6⟩,
 i 3 0] [])
 (s (s (r [
 m 4 0,
 v 5 (.bin .lss T.int (t 4) (c 1)),
 m 6 5,
 z 7 6 (M 0),
 z 8 6 (.bin .gtr T.int (t 7) (c 24)),
 v 9 (j 6 8)] [4,5,6,7,8])
 (d 9
 (s (r [
 L 10 3 2,
 y 3 2 10,
 i 3 1] [10])
 .ret)
 .skip))
 (s (.draw true [
 e (m 11 0),
 a (f 13 F.q4r []),
 h (⟨some 12,none,.mkSlice T.apiPeer 24 1 [.nil] (t 11) (t 11)⟩),
 a (v 14 (.build q6 [(0,1,(t 12)),(1,2,(t 13))])),
 (.last,y 3 2 14),
 a (i 3 0)] [11,12,13,14])
 .ret)))⟩
theorem H.q2k:Has P F.q2k C.q2k:=⟨Tryz.f14,Tryz.func14,by kernel_rfl,by kernel_rfl⟩
noncomputable def C.q2r:MFunc:=⟨15,1,[.cell 2 3 true,.tmp 3],
 (s (r [
 ⟨some 2,none,.alloc T.apiRoom q6⟩,
 i 3 0] [])
 (s (s (r [
 m 4 0,
 v 5 (.bin .lss T.int (t 4) (c 1)),
 m 6 5,
 z 7 6 (M 0),
 z 8 6 (.bin .gtr T.int (t 7) (c 24)),
 v 9 (j 6 8)] [4,5,6,7,8])
 (d 9
 (s (r [
 v 10 (.build q6 []),
 y 3 2 10,
 i 3 1] [10])
 .ret)
 .skip))
 (s (.draw true [
 e (m 11 0),
 a (f 13 F.q39 []),
 h (⟨some 12,none,.mkSlice T.apiPeer 24 1 [.nil] (t 11) (t 11)⟩),
 a (v 14 (.build q6 [(0,1,(t 12)),(1,2,(t 13))])),
 (.last,y 3 2 14),
 a (i 3 0)] [11,12,13,14])
 .ret)))⟩
theorem H.q2r:Has P F.q2r C.q2r:=⟨Tryz.f15,Tryz.func15,by kernel_rfl,by kernel_rfl⟩
noncomputable def C.q1i:MFunc:=⟨64,1,[.tmp 2],
 (s (r [
 ⟨some 1,none,.box T.apiRoom (t 0)⟩,
 i 2 0] [])
 (s (s (r [
 g 9 0 1,
 l 10 9,
 v 11 (n 10),
 v 12 (.bin .lss T.int (t 11) (c 1)),
 m 13 12,
 z 14 13 (G 0 1),
 z 15 13 (D 14),
 z 16 13 (n 15),
 z 17 13 (.bin .gtr T.int (t 16) (c 24)),
 v 18 (j 13 17),
 m 19 18,
 z 20 19 (G 1 1),
 z 21 19 (E 2 20),
 ⟨some 22,some (19,false),.call (.const (.func (.func F.q3r) [] [])) [(t 21)]⟩,
 z 23 19 (.bin .neq T.apiErrno (t 22) (c 0)),
 v 24 (j 19 23)] [9,10,11,12,13,14,15,16,17,18,19,20,21,22,23])
 (d 24
 (s (r [
 i 2 580] [])
 .ret)
 .skip))
 (s (s (r [
 g 25 0 1,
 l 26 25,
 v 27 (n 26),
 i 28 0] [25])
 (.block 0 (.loop (s (r [
 v 29 (A 28 27)] [])
 (s (d 29
 .skip
 (.exit 0))
 (s (.block 1 (s (r [
 v 30 (I 1 26 28),
 L 31 1 30,
 ⟨some 4,none,.alloc T.apiPeer [.nil]⟩,
 y 1 4 31] [30,31])
 (s (r [
 L 32 1 4,
 f 33 F.q3s [(t 32)],
 v 34 (N 33)] [32,33])
 (d 34
 (s (r [
 i 2 580] [])
 .ret)
 .skip))))
 (r [
 v 35 (p 28 1),
 m 28 35] [35])))))))
 (s (s (r [
 g 36 1 1,
 g 37 0 36,
 l 38 37,
 v 39 (n 38),
 i 40 0] [36,37])
 (.block 2 (.loop (s (r [
 v 41 (A 40 39)] [])
 (s (d 41
 .skip
 (.exit 2))
 (s (.block 3 (s (r [
 v 42 (I 3 38 40),
 L 43 3 42,
 ⟨some 6,none,.alloc T.apiPacket q4⟩,
 y 3 6 43] [42,43])
 (s (r [
 g 45 2 6,
 l 46 45,
 f 47 F.q16 [(t 46)],
 m 44 47,
 x 48 0 44,
 x 49 1 44,
 ⟨some 7,none,.alloc T.apiNote q1⟩,
 y 24 7 48,
 m 8 49] [45,46,47,44,48,49,7])
 (s (r [
 m 50 8,
 v 51 (N 50),
 m 52 51,
 z 53 52 (G 0 6),
 z 54 52 (D 53),
 z 55 52 (G 1 6),
 z 56 52 (D 55),
 z 57 52 (.minmax true [(t 54),(t 56)]),
 z 58 52 (G 0 1),
 z 59 52 (D 58),
 z 60 52 (n 59),
 z 61 52 (.bin .geq T.int (t 57) (t 60)),
 v 62 (j 52 61)] [50,51,52,53,54,55,56,57,58,59,60,61])
 (d 62
 (s (r [
 i 2 580] [])
 .ret)
 .skip)))))
 (r [
 v 63 (p 40 1),
 m 40 63] [63])))))))
 (s (r [
 i 2 0] [])
 .ret)))))⟩
theorem H.q1i:Has P F.q1i C.q1i:=⟨Tryz.f16,Tryz.func16,by kernel_rfl,by kernel_rfl⟩
noncomputable def C.q1w:MFunc:=⟨76,1,[.tmp 2],
 (s (r [
 ⟨some 1,none,.box T.apiRoom (t 0)⟩,
 i 2 0] [])
 (s (s (r [
 g 8 0 1,
 l 9 8,
 v 10 (n 9),
 v 11 (.bin .lss T.int (t 10) (c 1)),
 m 12 11,
 z 13 12 (G 0 1),
 z 14 12 (D 13),
 z 15 12 (n 14),
 z 16 12 (.bin .gtr T.int (t 15) (c 24)),
 v 17 (j 12 16),
 m 18 17,
 z 19 18 (G 1 1),
 z 20 18 (E 2 19),
 ⟨some 21,some (18,false),.call (.const (.func (.func F.q2m) [] [])) [(t 20)]⟩,
 z 22 18 (.bin .neq T.apiErrno (t 21) (c 0)),
 v 23 (j 18 22)] [8,9,10,11,12,13,14,15,16,17,18,19,20,21,22])
 (d 23
 (s (r [
 i 2 580] [])
 .ret)
 .skip))
 (s (s (r [
 i 3 0] [])
 (.block 0 (.loop (s (s (r [
 m 24 3,
 g 25 0 1,
 l 26 25,
 v 27 (n 26),
 v 28 (A 24 27)] [24,25,26,27])
 (d 28
 .skip
 (.exit 0)))
 (s (.block 1 (s (r [
 g 31 0 1,
 l 32 31,
 m 33 3,
 v 34 (I 1 32 33),
 L 35 1 34,
 f 36 F.q3l [(t 35)],
 v 37 (N 36)] [31,32,33,34,35,36])
 (d 37
 (s (r [
 i 2 580] [])
 .ret)
 .skip)))
 (r [
 m 29 3,
 v 30 (p 29 1),
 m 3 30] [29,30]))))))
 (s (s (r [
 i 4 0] [])
 (.block 2 (.loop (s (s (r [
 m 38 4,
 g 39 1 1,
 g 40 0 39,
 l 41 40,
 v 42 (n 41),
 v 43 (A 38 42)] [38,39,40,41,42])
 (d 43
 .skip
 (.exit 2)))
 (s (.block 3 (s (r [
 g 46 1 1,
 g 47 0 46,
 l 48 47,
 m 49 4,
 v 50 (I 3 48 49),
 L 51 3 50,
 ⟨some 5,none,.alloc T.apiPacket q4⟩,
 y 3 5 51] [46,47,48,49,50,51])
 (s (r [
 g 53 2 5,
 l 54 53,
 f 55 F.q1r [(t 54)],
 m 52 55,
 x 56 0 52,
 x 57 1 52,
 ⟨some 6,none,.alloc T.apiNote q1⟩,
 y 24 6 56,
 m 7 57] [53,54,55,52,56,57,6])
 (s (r [
 m 58 7,
 v 59 (N 58),
 m 60 59,
 z 61 60 (G 0 5),
 z 62 60 (D 61),
 z 63 60 (G 0 1),
 z 64 60 (D 63),
 z 65 60 (n 64),
 z 66 60 (.bin .geq T.int (t 62) (t 65)),
 v 67 (j 60 66),
 m 68 67,
 z 69 68 (G 1 5),
 z 70 68 (D 69),
 z 71 68 (G 0 1),
 z 72 68 (D 71),
 z 73 68 (n 72),
 z 74 68 (.bin .geq T.int (t 70) (t 73)),
 v 75 (j 68 74)] [58,59,60,61,62,63,64,65,66,67,68,69,70,71,72,73,74])
 (d 75
 (s (r [
 i 2 580] [])
 .ret)
 .skip)))))
 (r [
 m 44 4,
 v 45 (p 44 1),
 m 4 45] [44,45]))))))
 (s (r [
 i 2 0] [])
 .ret)))))⟩
theorem H.q1w:Has P F.q1w C.q1w:=⟨Tryz.f17,Tryz.func17,by kernel_rfl,by kernel_rfl⟩
noncomputable def C.q27:MFunc:=⟨42,2,[.tmp 4],
 (s (r [
 ⟨some 2,none,.box T.apiRoom (t 0)⟩,
 ⟨some 3,none,.box T.apiRoom (t 1)⟩,
 b 4 false] [])
 (s (s (r [
 g 6 0 2,
 l 7 6,
 v 8 (n 7),
 g 9 0 3,
 l 10 9,
 v 11 (n 10),
 v 12 (.bin .neq T.int (t 8) (t 11)),
 m 13 12,
 z 14 13 (G 1 2),
 z 15 13 (E 2 14),
 z 16 13 (G 1 3),
 z 17 13 (E 2 16),
 ⟨some 18,some (13,false),.call (.const (.func (.func F.q3u) [] [])) [(t 15),(t 17)]⟩,
 z 19 13 (N 18),
 v 20 (j 13 19)] [6,7,8,9,10,11,12,13,14,15,16,17,18,19])
 (d 20
 (s (r [
 b 4 false] [])
 .ret)
 .skip))
 (s (s (r [
 i 5 0] [])
 (.block 0 (.loop (s (s (r [
 m 21 5,
 g 22 0 2,
 l 23 22,
 v 24 (n 23),
 v 25 (A 21 24)] [21,22,23,24])
 (d 25
 .skip
 (.exit 0)))
 (s (.block 1 (s (.draw true [
 e (g 28 0 2),
 e (l 29 28),
 e (m 30 5),
 e (v 31 (I 1 29 30)),
 e (g 32 0 31),
 e (l 33 32),
 e (g 34 0 3),
 e (l 35 34),
 e (m 36 5),
 e (v 37 (I 1 35 36)),
 e (g 38 0 37),
 e (l 39 38),
 h (f 40 F.q1e [(t 33),(t 39)]),
 a (v 41 (N 40))] [28,29,30,31,32,33,34,35,36,37,38,39,40])
 (d 41
 (s (r [
 b 4 false] [])
 .ret)
 .skip)))
 (r [
 m 26 5,
 v 27 (p 26 1),
 m 5 27] [26,27]))))))
 (s (r [
 b 4 true] [])
 .ret))))⟩
theorem H.q27:Has P F.q27 C.q27:=⟨Tryz.f18,Tryz.func18,by kernel_rfl,by kernel_rfl⟩
noncomputable def C.q4d:MFunc:=⟨54,2,[.cell 4 46 true,.tmp 5],
 (s (r [
 ⟨some 2,none,.box T.apiContest (t 0)⟩,
 ⟨some 3,none,.box T.apiPeer (t 1)⟩,
 ⟨some 4,none,.alloc T.apiWorld ((.val (.string ⟨#[]⟩))::.nil::.nil::.nil::.nil::.nil::.nil::.nil::.int 0::.nil::.nil::.nil::o (.nil::.nil::[]))⟩,
 i 5 0] [])
 (s (s (r [
 L 8 1 3,
 f 9 F.q3s [(t 8)],
 v 10 (N 9)] [8,9])
 (d 10
 (s (r [
 L 11 46 4,
 y 46 4 11,
 i 5 580] [11])
 .ret)
 .skip))
 (s (r [
 L 12 44 2,
 g 13 0 4,
 y 44 13 12] [12,13])
 (s (s (r [
 g 14 0 3,
 l 15 14,
 v 16 (n 15),
 i 17 0] [14])
 (.block 0 (.loop (s (r [
 v 18 (A 17 16)] [])
 (s (d 18
 .skip
 (.exit 0))
 (s (.block 1 (s (r [
 v 19 (I 24 15 17),
 L 20 24 19,
 ⟨some 7,none,.alloc T.apiNote q1⟩,
 y 24 7 20] [19,20])
 (s (r [
 g 21 0 7,
 l 22 21,
 v 23 (.bin .eql T.int (t 22) (c 1))] [21,22])
 (d 23
 (r [
 g 24 44 4,
 l 25 24,
 g 26 1 7,
 L 27 9 26,
 v 28 (.buildSlice T.apiEvent 1 q3 [(0,9,(t 27))]),
 ⟨some 29,none,.append T.apiEvent 72 9 (t 25) (t 28)⟩,
 g 30 44 4,
 y 1 30 29] [24,25,26,27,28,29,30])
 (r [
 g 31 45 4,
 l 32 31,
 g 33 10 7,
 L 34 14 33,
 v 35 (.buildSlice T.apiDecision 1 q2 [(0,14,(t 34))]),
 ⟨some 36,none,.append T.apiDecision 112 14 (t 32) (t 35)⟩,
 g 37 45 4,
 y 1 37 36] [31,32,33,34,35,36,37])))))
 (r [
 v 38 (p 17 1),
 m 17 38] [38])))))))
 (s (r [
 g 39 44 4,
 l 40 39,
 ⟨some 41,none,.call (.const (.func (.func F.q0e) [] [])) [(t 40),(.const (.func (.func F.q24) [] []))]⟩] [39,40,41])
 (s (r [
 g 42 45 4,
 l 43 42,
 ⟨some 44,none,.call (.const (.func (.func F.q0b) [] [])) [(t 43),(.const (.func (.func F.q25) [] []))]⟩] [42,43,44])
 (s (r [
 g 45 44 4,
 l 46 45,
 ⟨some 47,none,.call (.const (.func (.func F.q0i) [] [])) [(t 46),(.const (.func (.func F.q3e) [] []))]⟩,
 g 48 44 4,
 y 1 48 47] [45,46,47,48])
 (s (r [
 g 49 45 4,
 l 50 49,
 ⟨some 51,none,.call (.const (.func (.func F.q0d) [] [])) [(t 50),(.const (.func (.func F.q3f) [] []))]⟩,
 g 52 45 4,
 y 1 52 51] [49,50,51,52])
 (s (r [
 L 53 46 4,
 y 46 4 53,
 i 5 0] [53])
 .ret)))))))))⟩
theorem H.q4d:Has P F.q4d C.q4d:=⟨Tryz.f21,Tryz.func21,by kernel_rfl,by kernel_rfl⟩
noncomputable def C.q3c:MFunc:=⟨24,1,[.tmp 2,.tmp 3],
 (s (r [
 ⟨some 1,none,.box T.apiPeer (t 0)⟩,
 v 2 (.mv (.const .nil)),
 i 3 0] [])
 (s (s (r [
 L 6 1 1,
 f 7 F.q3s [(t 6)],
 v 8 (N 7)] [6,7])
 (d 8
 (s (r [
 v 2 (.mv (.const .nil)),
 i 3 580] [])
 .ret)
 .skip))
 (s (s (r [
 g 9 0 1,
 l 10 9,
 v 11 (n 10),
 i 12 0] [9])
 (.block 0 (.loop (s (r [
 v 13 (A 12 11)] [])
 (s (d 13
 .skip
 (.exit 0))
 (s (.block 1 (s (r [
 v 14 (I 24 10 12),
 L 15 24 14,
 ⟨some 5,none,.alloc T.apiNote q1⟩,
 y 24 5 15] [14,15])
 (r [
 m 16 2,
 L 17 24 5,
 f 18 F.q19 [(t 17)],
 ⟨some 19,none,.bytes (t 18)⟩,
 v 20 (.buildSlice T.Luint8 1 [.nil] [(0,1,(t 19))]),
 ⟨some 21,none,.append T.Luint8 24 1 (t 16) (t 20)⟩,
 m 2 21] [16,17,18,19,20,21])))
 (r [
 v 22 (p 12 1),
 m 12 22] [22])))))))
 (s (r [
 m 23 2,
 m 2 23,
 i 3 0] [23])
 .ret))))⟩
theorem H.q3c:Has P F.q3c C.q3c:=⟨Tryz.f23,Tryz.func23,by kernel_rfl,by kernel_rfl⟩
noncomputable def C.q3d:MFunc:=⟨38,1,[.cell 2 1 true,.tmp 3],
 (s (r [
 ⟨some 2,none,.alloc T.apiPeer [.nil]⟩,
 i 3 0] [])
 (s (s (r [
 m 9 0,
 v 10 (n 9),
 v 11 (.bin .gtr T.int (t 10) (c 4096))] [9,10])
 (d 11
 (s (r [
 L 12 1 2,
 y 1 2 12,
 i 3 2] [12])
 .ret)
 .skip))
 (s (r [
 v 4 (.mv (.const .nil))] [])
 (s (s (r [
 m 13 0,
 v 14 (n 13),
 i 15 0] [])
 (.block 0 (.loop (s (r [
 v 16 (A 15 14)] [])
 (s (d 16
 .skip
 (.exit 0))
 (s (.block 1 (s (r [
 v 17 (I 1 13 15),
 l 18 17,
 m 6 18] [17,18])
 (s (r [
 m 20 6,
 f 21 F.q16 [(t 20)],
 m 19 21,
 x 22 0 19,
 x 23 1 19,
 ⟨some 7,none,.alloc T.apiNote q1⟩,
 y 24 7 22,
 m 8 23] [20,21,19,22,23])
 (s (s (r [
 m 24 8,
 v 25 (N 24)] [24])
 (d 25
 (s (r [
 L 26 1 2,
 y 1 2 26,
 i 3 580] [26])
 .ret)
 .skip))
 (r [
 m 27 4,
 L 28 24 7,
 v 29 (.buildSlice T.apiNote 1 q1 [(0,24,(t 28))]),
 ⟨some 30,none,.append T.apiNote 192 24 (t 27) (t 29)⟩,
 m 4 30] [27,28,29,30])))))
 (r [
 v 31 (p 15 1),
 m 15 31] [31])))))))
 (s (r [
 m 32 4,
 ⟨some 33,none,.call (.const (.func (.func F.q0l) [] [])) [(t 32),(.const (.func (.func F.q09) [] []))]⟩] [32,33])
 (s (r [
 m 34 4,
 f 35 F.q0p [(t 34)],
 g 36 0 2,
 y 1 36 35] [34,35,36])
 (s (r [
 L 37 1 2,
 y 1 2 37,
 i 3 0] [37])
 .ret)))))))⟩
theorem H.q3d:Has P F.q3d C.q3d:=⟨Tryz.f25,Tryz.func25,by kernel_rfl,by kernel_rfl⟩
noncomputable def C.q1e:MFunc:=⟨26,2,[.tmp 4],
 (s (r [
 b 4 false] [])
 (s (s (r [
 m 6 0,
 v 7 (n 6),
 m 8 1,
 v 9 (n 8),
 v 10 (.bin .neq T.int (t 7) (t 9))] [6,7,8,9])
 (d 10
 (s (r [
 b 4 false] [])
 .ret)
 .skip))
 (s (s (r [
 i 5 0] [])
 (.block 0 (.loop (s (s (r [
 m 11 5,
 m 12 0,
 v 13 (n 12),
 v 14 (A 11 13)] [11,12,13])
 (d 14
 .skip
 (.exit 0)))
 (s (.block 1 (s (.draw false [
 e (m 17 0),
 e (m 18 5),
 e (v 19 (I 24 17 18)),
 e (L 20 24 19),
 e (m 21 1),
 e (m 22 5),
 e (v 23 (I 24 21 22)),
 e (L 24 24 23),
 e (v 25 (.eqAgg true [.int,.int,.int,.int,.int,.int,.int,.int,.int,.int,.int,.int,.int,.int,.int,.int,.int,.int,.int,.int,.int,.int,.int,.int] (t 20) (t 24)))] [17,18,19,20,21,22,23,24])
 (d 25
 (s (r [
 b 4 false] [])
 .ret)
 .skip)))
 (r [
 m 15 5,
 v 16 (p 15 1),
 m 5 16] [15,16]))))))
 (s (r [
 b 4 true] [])
 .ret))))⟩
theorem H.q1e:Has P F.q1e C.q1e:=⟨Tryz.f29,Tryz.func29,by kernel_rfl,by kernel_rfl⟩
noncomputable def C.q3l:MFunc:=⟨41,1,[.tmp 2],
 (s (r [
 ⟨some 1,none,.box T.apiPeer (t 0)⟩,
 b 2 false] [])
 (s (s (r [
 i 3 0] [])
 (.block 0 (.loop (s (s (r [
 m 4 3,
 g 5 0 1,
 l 6 5,
 v 7 (n 6),
 v 8 (A 4 7)] [4,5,6,7])
 (d 8
 .skip
 (.exit 0)))
 (s (.block 1 (s (.draw true [
 e (g 11 0 1),
 e (l 12 11),
 e (m 13 3),
 e (v 14 (I 24 12 13)),
 e (L 15 24 14),
 h (f 16 F.q1c [(t 15)]),
 a (v 17 (N 16)),
 a (m 18 17),
 a (z 19 18 (M 3)),
 a (z 20 18 (.bin .gtr T.int (t 19) (c 0))),
 a (z 21 18 (M 20)),
 a (w 22 21 (G 0 1)),
 a (w 23 21 (D 22)),
 a (w 24 21 (M 3)),
 a (w 25 21 (.bin .sub T.int (t 24) (c 1))),
 a (w 26 21 (I 24 23 25)),
 a (w 27 21 (E 24 26)),
 a (w 28 21 (G 0 1)),
 a (w 29 21 (D 28)),
 a (w 30 21 (M 3)),
 a (w 31 21 (I 24 29 30)),
 a (w 32 21 (E 24 31)),
 h (⟨some 33,some (21,true),.call (.const (.func (.func F.q2v) [] [])) [(t 27),(t 32)]⟩),
 a (w 34 21 (N 33)),
 a (z 35 18 (k 21 34)),
 a (v 36 (j 18 35))] [11,12,13,14,15,16,17,18,19,20,21,22,23,24,25,26,27,28,29,30,31,32,33,34,35])
 (d 36
 (s (r [
 b 2 false] [])
 .ret)
 .skip)))
 (r [
 m 9 3,
 v 10 (p 9 1),
 m 3 10] [9,10]))))))
 (s (r [
 g 37 0 1,
 l 38 37,
 v 39 (n 38),
 v 40 (.bin .leq T.int (t 39) (c 4096)),
 m 2 40] [37,38,39,40])
 .ret)))⟩
theorem H.q3l:Has P F.q3l C.q3l:=⟨Tryz.f33,Tryz.func33,by kernel_rfl,by kernel_rfl⟩
noncomputable def C.q34:MFunc:=⟨37,1,[.tmp 2],
 (s (r [
 i 2 0] [])
 (s (s (r [
 m 6 0,
 v 7 (n 6),
 v 8 (.bin .gtr T.int (t 7) (c 4096))] [6,7])
 (d 8
 (s (r [
 i 2 2] [])
 .ret)
 .skip))
 (s (r [
 f 9 F.q4m [],
 m 3 9] [9])
 (s (s (r [
 m 10 0,
 v 11 (n 10),
 i 12 0] [])
 (.block 0 (.loop (s (r [
 v 13 (A 12 11)] [])
 (s (d 13
 .skip
 (.exit 0))
 (s (.block 1 (s (r [
 m 14 12,
 v 15 (I 9 10 12),
 L 16 9 15,
 ⟨some 5,none,.alloc T.apiEvent q3⟩,
 m 4 14,
 y 9 5 16] [14,15,16])
 (s (.draw true [
 e (L 17 9 5),
 e (m 18 3),
 h (f 19 F.q4n [(t 17),(t 18)]),
 a (v 20 (N 19)),
 a (m 21 20),
 a (z 22 21 (M 4)),
 a (z 23 21 (.bin .gtr T.int (t 22) (c 0))),
 a (z 24 21 (M 23)),
 a (w 25 24 (M 0)),
 a (w 26 24 (M 4)),
 a (w 27 24 (.bin .sub T.int (t 26) (c 1))),
 a (w 28 24 (I 9 25 27)),
 a (w 29 24 (G 0 28)),
 a (w 30 24 (D 29)),
 a (w 31 24 (G 0 5)),
 a (w 32 24 (D 31)),
 a (w 33 24 (.bin .geq T.int (t 30) (t 32))),
 a (z 34 21 (k 24 33)),
 a (v 35 (j 21 34))] [17,18,19,20,21,22,23,24,25,26,27,28,29,30,31,32,33,34])
 (d 35
 (s (r [
 i 2 490] [])
 .ret)
 .skip))))
 (r [
 v 36 (p 12 1),
 m 12 36] [36])))))))
 (s (r [
 i 2 0] [])
 .ret)))))⟩
theorem H.q34:Has P F.q34 C.q34:=⟨Tryz.f34,Tryz.func34,by kernel_rfl,by kernel_rfl⟩
noncomputable def C.q4e:MFunc:=⟨59,1,[.tmp 2],
 (s (r [
 i 2 0] [])
 (s (s (r [
 m 7 0,
 v 8 (n 7),
 v 9 (.bin .gtr T.int (t 8) (c 4096))] [7,8])
 (d 9
 (s (r [
 i 2 2] [])
 .ret)
 .skip))
 (s (r [
 f 10 F.q4j [],
 ⟨some 3,none,.alloc T.q48 [(.val .nilFunc),(.val .nilFunc),(.val .nilFunc),(.val .nilFunc),(.val .nilFunc),(.val .nilFunc),(.val .nilFunc),(.val .nilFunc)]⟩,
 y 8 3 10,
 v 4 (.mv (.const (.int (-1))))] [10])
 (s (s (r [
 m 11 0,
 v 12 (n 11),
 i 13 0] [])
 (.block 0 (.loop (s (r [
 v 14 (A 13 12)] [])
 (s (d 14
 .skip
 (.exit 0))
 (s (.block 1 (s (r [
 v 15 (I 14 11 13),
 L 16 14 15,
 ⟨some 6,none,.alloc T.apiDecision q2⟩,
 y 14 6 16] [15,16])
 (s (s (.draw true (
 e (g 17 2 6) ::
 e (l 18 17) ::
 e (v 19 (.bin .lss T.int (t 18) (c 1))) ::
 e (m 20 19) ::
 e (z 21 20 (G 2 6)) ::
 e (z 22 20 (D 21)) ::
 e (z 23 20 (.bin .gtr T.int (t 22) (c 3))) ::
 e (v 24 (j 20 23)) ::
 e (m 25 24) ::
 e (z 26 25 (G 0 6)) ::
 e (z 27 25 (D 26)) ::
 e (z 28 25 (M 4)) ::
 e (z 29 25 (.bin .leq T.int (t 27) (t 28))) ::
 e (v 30 (j 25 29)) ::
 e (m 31 30) ::
 e (z 32 31 (G 0 6)) ::
 e (z 33 31 (D 32)) ::
 e (z 34 31 (.bin .gtr T.int (t 33) (c 1048576))) ::
 e (v 35 (j 31 34)) ::
 e (m 36 35) ::
 e (z 37 36 (G 1 6)) ::
 e (z 38 36 (D 37)) ::
 e (z 39 36 (.bin .lss T.int (t 38) (c 0))) ::
 e (v 40 (j 36 39)) ::
 e (m 41 40) ::
 e (z 42 41 (G 1 6)) ::
 e (z 43 41 (D 42)) ::
 e (z 44 41 (.bin .geq T.int (t 43) (c 2097152))) ::
 e (v 45 (j 41 44)) ::
 e (m 46 45) ::
 e (z 47 46 (G 2 6)) ::
 e (z 48 46 (D 47)) ::
 e (z 49 46 (.indexArr 4 2 (t 3) (t 48))) ::
 e (z 50 46 (G 0 49)) ::
 e (z 51 46 (D 50)) ::
 e (z 52 46 (E 14 6)) ::
 h (⟨some 53,some (46,false),.call (t 51) [(t 52)]⟩) ::
 a (z 54 46 (N 53)) ::
 a (v 55 (j 46 54))::[]) (17::18::19::20::21::22::23::24::25::26::27::28::29::30::31::32::33::34::35::36::37::38::39::40::41::42::43::44::45::46::47::48::49::50::51::52::53::54::[]))
 (d 55
 (s (r [
 i 2 510] [])
 .ret)
 .skip))
 (r [
 g 56 0 6,
 l 57 56,
 m 4 57] [56,57]))))
 (r [
 v 58 (p 13 1),
 m 13 58] [58])))))))
 (s (r [
 i 2 0] [])
 .ret)))))⟩
theorem H.q4e:Has P F.q4e C.q4e:=⟨Tryz.f35,Tryz.func35,by kernel_rfl,by kernel_rfl⟩
noncomputable def C.q2c:MFunc:=⟨9,2,[.cell 4 24 true],
 (s (r [
 ⟨some 4,none,.alloc T.apiNote q1⟩] [])
 (s (r [
 m 5 0,
 m 6 1,
 v 7 (.build q3 [(0,1,(t 5)),(1,1,(c 1)),(3,1,(c 3)),(6,1,(t 6)),(7,1,(c 7)),(8,1,(c 8))]),
 v 8 (.build q1 [(0,1,(c 1)),(1,9,(t 7))]),
 y 24 4 8] [5,6,7,8])
 .ret))⟩
theorem H.q2c:Has P F.q2c C.q2c:=⟨Tryz.f36,Tryz.func36,by kernel_rfl,by kernel_rfl⟩
noncomputable def C.q1p:MFunc:=⟨33,1,[.tmp 2],
 (s (r [
 ⟨some 1,none,.box T.apiNote (t 0)⟩,
 v 2 (.mv (.const .nil))] [])
 (s (r [
 ⟨some 8,none,.val (.build [(.int 0),(.int 0),(.val (.string ⟨#[]⟩)),.nil] [(0,1,(c 3))])⟩,
 ⟨some 3,none,.alloc T.apiValue [(.int 0),(.int 0),(.val (.string ⟨#[]⟩)),.nil]⟩,
 y 4 3 8] [8])
 (s (r [
 L 9 24 1,
 f 10 F.q26 [(t 9)],
 m 4 10] [9,10])
 (s (s (r [
 i 5 0] [])
 (.block 0 (.loop (s (s (r [
 m 11 5,
 m 12 4,
 v 13 (n 12),
 v 14 (A 11 13)] [11,12,13])
 (d 14
 .skip
 (.exit 0)))
 (s (.block 1 (.draw true [
 e (g 17 3 3),
 e (l 18 17),
 e (m 19 4),
 e (m 20 5),
 e (v 21 (I 1 19 20)),
 e (l 22 21),
 (.early,⟨some 23,none,.val (.build [(.int 0),(.int 0),(.val (.string ⟨#[]⟩)),.nil] [(0,1,(c 1)),(1,1,(t 22))])⟩),
 (.early,⟨some 24,none,.val (.buildSlice T.apiValue 1 [(.int 0),(.int 0),(.val (.string ⟨#[]⟩)),.nil] [(0,4,(t 23))])⟩),
 h (⟨some 25,none,.append T.apiValue 56 4 (t 18) (t 24)⟩),
 a (g 26 3 3),
 (.last,y 1 26 25)] [17,18,19,20,21,22,23,24,25,26]))
 (r [
 m 15 5,
 v 16 (p 15 1),
 m 5 16] [15,16]))))))
 (s (r [
 L 28 4 3,
 f 29 F.q2a [(t 28)],
 m 27 29,
 x 30 0 27,
 x 31 1 27,
 m 6 30,
 m 7 31] [28,29,27,30,31,7])
 (s (r [
 m 32 6,
 m 2 32] [32])
 .ret))))))⟩
theorem H.q1p:Has P F.q1p C.q1p:=⟨Tryz.f37,Tryz.func37,by kernel_rfl,by kernel_rfl⟩
noncomputable def C.q38:MFunc:=⟨13,1,[.tmp 2],
 (s (r [
 ⟨some 1,none,.box T.apiNet (t 0)⟩,
 b 2 false] [])
 (s (r [
 g 3 0 1,
 l 4 3,
 v 5 (n 4),
 v 6 (.bin .leq T.int (t 5) (c 40)),
 m 7 6,
 w 8 7 (G 1 1),
 w 9 7 (D 8),
 w 10 7 (n 9),
 w 11 7 (.bin .leq T.int (t 10) (c 40)),
 v 12 (k 7 11),
 m 2 12] [3,4,5,6,7,8,9,10,11,12])
 .ret))⟩
theorem H.q38:Has P F.q38 C.q38:=⟨Tryz.f38,Tryz.func38,by kernel_rfl,by kernel_rfl⟩
noncomputable def C.q03:MFunc:=⟨21,2,[],
 (s (r [
 ⟨some 2,none,.box T.q49 (t 0)⟩,
 ⟨some 3,none,.box T.apiMove (t 1)⟩] [])
 (s (r [
 l 4 2,
 g 5 1 3,
 l 6 5,
 f 7 F.q1f [(t 4),(t 6)]] [4,5,6,7])
 (s (r [
 g 8 4 3,
 L 9 24 8,
 f 10 F.q1y [(t 9)],
 f 11 F.q1s [(t 10),(c 580)]] [8,9,10,11])
 (s (r [
 l 12 2,
 g 13 1 3,
 l 14 13,
 g 15 4 3,
 L 16 24 15,
 f 17 F.q1u [(t 12),(t 14),(t 16)]] [12,13,14,15,16,17])
 (r [
 l 18 2,
 v 19 (.mkFunc (.func F.q13) [] [(t 2),(t 3)]),
 f 20 F.q2e [(t 18),(t 19)]] [18,19,20])))))⟩
theorem H.q03:Has P F.q03 C.q03:=⟨Tryz.f39,Tryz.func39,by kernel_rfl,by kernel_rfl⟩
noncomputable def C.q1j:MFunc:=⟨21,2,[],
 (s (r [
 ⟨some 2,none,.box T.q49 (t 0)⟩,
 ⟨some 3,none,.box T.apiMove (t 1)⟩] [])
 (s (r [
 l 4 2,
 g 5 1 3,
 l 6 5,
 f 7 F.q1f [(t 4),(t 6)]] [4,5,6,7])
 (s (r [
 l 8 2,
 g 9 2 3,
 l 10 9,
 f 11 F.q1f [(t 8),(t 10)]] [8,9,10,11])
 (s (r [
 g 12 1 3,
 l 13 12,
 g 14 2 3,
 l 15 14,
 v 16 (.bin .neq T.int (t 13) (t 15)),
 f 17 F.q1s [(t 16),(c 1)]] [12,13,14,15,16,17])
 (r [
 l 18 2,
 v 19 (.mkFunc (.func F.q14) [] [(t 2),(t 3)]),
 f 20 F.q2e [(t 18),(t 19)]] [18,19,20])))))⟩
theorem H.q1j:Has P F.q1j C.q1j:=⟨Tryz.f40,Tryz.func40,by kernel_rfl,by kernel_rfl⟩
noncomputable def C.q0s:MFunc:=⟨46,2,[],
 (s (r [
 ⟨some 3,none,.box T.apiMove (t 1)⟩] [])
 (s (.draw2 [
 a (m 10 0),
 a (v 11 (.nilCheck (t 10))),
 a (g 12 0 11),
 a (g 13 1 12),
 a (L 14 2 13),
 a (g 15 3 3),
 a (l 16 15),
 a (f 17 F.q10 [(t 14),(t 16)]),
 a (m 9 17),
 a (x 18 0 9),
 a (x 19 1 9),
 a (x 20 2 9)] [
 h (⟨some 4,none,.alloc T.apiPacket q4⟩),
 h (⟨some 5,none,.alloc T.apiNet [.nil,.nil]⟩),
 (.last,y 3 4 18),
 (.last,y 2 5 19),
 a (m 6 20)] [
 h (⟨some 5,none,.alloc T.apiNet [.nil,.nil]⟩),
 h (⟨some 4,none,.alloc T.apiPacket q4⟩),
 (.last,y 3 4 18),
 (.last,y 2 5 19),
 a (m 6 20)] [10,11,12,13,14,15,16,17,9,18,19,20])
 (s (r [
 m 21 6,
 v 22 (.bin .eql T.apiErrno (t 21) (c 0)),
 m 23 6,
 f 24 F.q1s [(t 22),(t 23)]] [21,22,23,24])
 (s (r [
 m 25 0,
 L 26 2 5,
 v 27 (.nilCheck (t 25)),
 g 28 0 27,
 g 29 1 28,
 y 2 29 26] [25,26,27,28,29])
 (s (r [
 g 30 0 4,
 l 31 30,
 g 32 1 4,
 l 33 32,
 v 34 (.bin .neq T.int (t 31) (t 33))] [30,31,32,33])
 (d 34
 (s (r [
 g 36 2 4,
 l 37 36,
 f 38 F.q16 [(t 37)],
 m 35 38,
 x 39 0 35,
 x 40 1 35,
 ⟨some 7,none,.alloc T.apiNote q1⟩,
 y 24 7 39,
 m 8 40] [36,37,38,35,39,40,8])
 (r [
 m 41 0,
 g 42 1 4,
 l 43 42,
 L 44 24 7,
 f 45 F.q1u [(t 41),(t 43),(t 44)]] [41,42,43,44,45]))
 .skip))))))⟩
theorem H.q0s:Has P F.q0s C.q0s:=⟨Tryz.f41,Tryz.func41,by kernel_rfl,by kernel_rfl⟩
noncomputable def C.q1k:MFunc:=⟨26,2,[],
 (s (r [
 ⟨some 3,none,.box T.apiMove (t 1)⟩] [])
 (s (.draw true [
 a (m 7 0),
 a (v 8 (.nilCheck (t 7))),
 a (g 9 0 8),
 a (g 10 1 9),
 a (L 11 2 10),
 a (g 12 3 3),
 a (l 13 12),
 a (f 14 F.q35 [(t 11),(t 13)]),
 a (m 6 14),
 a (x 15 0 6),
 a (x 16 1 6),
 h (⟨some 4,none,.alloc T.apiNet [.nil,.nil]⟩),
 (.last,y 2 4 15),
 a (m 5 16)] [7,8,9,10,11,12,13,14,6,15,16])
 (s (r [
 m 17 5,
 v 18 (.bin .eql T.apiErrno (t 17) (c 0)),
 m 19 5,
 f 20 F.q1s [(t 18),(t 19)]] [17,18,19,20])
 (r [
 m 21 0,
 L 22 2 4,
 v 23 (.nilCheck (t 21)),
 g 24 0 23,
 g 25 1 24,
 y 2 25 22] [21,22,23,24,25]))))⟩
theorem H.q1k:Has P F.q1k C.q1k:=⟨Tryz.f42,Tryz.func42,by kernel_rfl,by kernel_rfl⟩
noncomputable def C.q07:MFunc:=⟨26,2,[],
 (s (r [
 ⟨some 3,none,.box T.apiMove (t 1)⟩] [])
 (s (.draw true [
 a (m 7 0),
 a (v 8 (.nilCheck (t 7))),
 a (g 9 0 8),
 a (g 10 1 9),
 a (L 11 2 10),
 a (g 12 3 3),
 a (l 13 12),
 a (f 14 F.q29 [(t 11),(t 13)]),
 a (m 6 14),
 a (x 15 0 6),
 a (x 16 1 6),
 h (⟨some 4,none,.alloc T.apiNet [.nil,.nil]⟩),
 (.last,y 2 4 15),
 a (m 5 16)] [7,8,9,10,11,12,13,14,6,15,16])
 (s (r [
 m 17 5,
 v 18 (.bin .eql T.apiErrno (t 17) (c 0)),
 m 19 5,
 f 20 F.q1s [(t 18),(t 19)]] [17,18,19,20])
 (r [
 m 21 0,
 L 22 2 4,
 v 23 (.nilCheck (t 21)),
 g 24 0 23,
 g 25 1 24,
 y 2 25 22] [21,22,23,24,25]))))⟩
theorem H.q07:Has P F.q07 C.q07:=⟨Tryz.f43,Tryz.func43,by kernel_rfl,by kernel_rfl⟩
noncomputable def C.q08:MRFunc:=⟨13,2,5,[],
 (s (.block 0 (s (r [
 ⟨some 7,none,.eqNil false .iface (t 5)⟩] [])
 (d 7
 (r [
 m 2 5] [2])
 (s (r [
 v 8 (.assert T.apiErrno (.int 0) true (t 5)),
 x 9 1 8,
 x 10 0 8] [8])
 (d 9
 (s (r [
 m 3 10] [])
 (r [
 v 11 (.build q6 []),
 m 12 3,
 y 3 0 11,
 y 1 1 12] [11,12]))
 (s (r [
 m 4 5] [])
 (r [
 m 6 4,
 ⟨none,none,.panic (t 6)⟩] [6])))))))
 .skip)⟩
theorem H.q08:HasR P F.q08 C.q08:=⟨Tryz.f44,Tryz.func44,by kernel_rfl,by kernel_rfl⟩
noncomputable def C.q1l:MFunc:=⟨8,1,[.tmp 2],
 (s (r [
 v 2 (.mv (.const .nil))] [])
 (s (s (r [
 m 3 0,
 ⟨some 4,none,.eqNil false .slice (t 3)⟩] [3])
 (d 4
 (s (r [
 v 2 (.mv (.const .nil))] [])
 .ret)
 .skip))
 (s (r [
 v 5 (.buildSlice T.apiPeer 0 [] []),
 m 6 0,
 ⟨some 7,none,.append T.apiPeer 24 1 (t 5) (t 6)⟩,
 m 2 7] [5,6,7])
 .ret)))⟩
theorem H.q1l:Has P F.q1l C.q1l:=⟨Tryz.f45,Tryz.func45,by kernel_rfl,by kernel_rfl⟩
noncomputable def C.q12:MFunc:=⟨56,2,[.cell 4 3 true,.tmp 5],
 (s (r [
 ⟨some 2,none,.box T.apiRoom (t 0)⟩,
 ⟨some 3,none,.box T.apiMove (t 1)⟩,
 ⟨some 4,none,.alloc T.apiRoom q6⟩,
 i 5 0] [])
 (s (s (r [
 L 9 3 2,
 g 10 1 3,
 l 11 10,
 f 12 F.q2n [(t 9),(t 11)],
 v 13 (N 12)] [9,10,11,12])
 (d 13
 (s (r [
 v 14 (.build q6 []),
 y 3 4 14,
 i 5 1] [14])
 .ret)
 .skip))
 (s (s (r [
 g 15 4 3,
 L 16 24 15,
 f 17 F.q1c [(t 16)],
 v 18 (N 17)] [15,16,17])
 (d 18
 (s (r [
 v 19 (.build q6 []),
 y 3 4 19,
 i 5 580] [19])
 .ret)
 .skip))
 (s (r [
 L 21 3 2,
 g 22 1 3,
 l 23 22,
 g 24 4 3,
 L 25 24 24,
 f 26 F.q20 [(t 21),(t 23),(t 25)],
 m 20 26,
 x 27 0 20,
 x 28 1 20,
 ⟨some 6,none,.alloc T.apiRoom q6⟩,
 y 3 6 27,
 m 7 28] [21,22,23,24,25,26,20,27,28])
 (s (s (r [
 i 8 0] [])
 (.block 0 (.loop (s (s (r [
 m 29 7,
 v 30 (.bin .eql T.apiErrno (t 29) (c 0)),
 m 31 30,
 w 32 31 (M 8),
 w 33 31 (G 0 2),
 w 34 31 (D 33),
 w 35 31 (n 34),
 w 36 31 (A 32 35),
 v 37 (k 31 36)] [29,30,31,32,33,34,35,36])
 (d 37
 .skip
 (.exit 0)))
 (s (.block 1 (s (r [
 m 40 8,
 g 41 1 3,
 l 42 41,
 v 43 (.bin .neq T.int (t 40) (t 42))] [40,41,42])
 (d 43
 (r [
 L 45 3 6,
 g 46 1 3,
 l 47 46,
 m 48 8,
 g 49 4 3,
 L 50 24 49,
 f 51 F.q2f [(t 45),(t 47),(t 48),(t 50)],
 m 44 51,
 x 52 0 44,
 x 53 1 44,
 y 3 6 52,
 m 7 53] [45,46,47,48,49,50,51,44,52,53])
 .skip)))
 (r [
 m 38 8,
 v 39 (p 38 1),
 m 8 39] [38,39]))))))
 (s (r [
 L 54 3 6,
 m 55 7,
 y 3 4 54,
 m 5 55] [54,55])
 .ret))))))⟩
theorem H.q12:Has P F.q12 C.q12:=⟨Tryz.f46,Tryz.func46,by kernel_rfl,by kernel_rfl⟩
noncomputable def C.q2u:MFunc:=⟨63,2,[.cell 4 3 true,.tmp 5],
 (s (r [
 ⟨some 2,none,.box T.apiRoom (t 0)⟩,
 ⟨some 3,none,.box T.apiMove (t 1)⟩,
 ⟨some 4,none,.alloc T.apiRoom q6⟩,
 i 5 0] [])
 (s (s (r [
 L 10 3 2,
 g 11 1 3,
 l 12 11,
 f 13 F.q2n [(t 10),(t 12)],
 v 14 (N 13),
 m 15 14,
 z 16 15 (E 3 2),
 z 17 15 (G 2 3),
 z 18 15 (D 17),
 ⟨some 19,some (15,false),.call (.const (.func (.func F.q2n) [] [])) [(t 16),(t 18)]⟩,
 z 20 15 (N 19),
 v 21 (j 15 20),
 m 22 21,
 z 23 22 (G 1 3),
 z 24 22 (D 23),
 z 25 22 (G 2 3),
 z 26 22 (D 25),
 z 27 22 (B 24 26),
 v 28 (j 22 27)] [10,11,12,13,14,15,16,17,18,19,20,21,22,23,24,25,26,27])
 (d 28
 (s (r [
 v 29 (.build q6 []),
 y 3 4 29,
 i 5 1] [29])
 .ret)
 .skip))
 (s (r [
 L 30 3 2,
 ⟨some 6,none,.alloc T.apiRoom q6⟩,
 y 3 6 30] [30])
 (s (r [
 i 7 0] [])
 (s (r [
 g 31 0 2,
 l 32 31,
 g 33 1 3,
 l 34 33,
 v 35 (I 1 32 34),
 g 36 0 35,
 l 37 36,
 m 8 37] [31,32,33,34,35,36,37])
 (s (s (r [
 i 9 0] [])
 (.block 0 (.loop (s (s (r [
 m 38 7,
 v 39 (.bin .eql T.apiErrno (t 38) (c 0)),
 m 40 39,
 w 41 40 (M 9),
 w 42 40 (M 8),
 w 43 40 (n 42),
 w 44 40 (A 41 43),
 v 45 (k 40 44)] [38,39,40,41,42,43,44])
 (d 45
 .skip
 (.exit 0)))
 (s (.block 1 (.draw true [
 e (L 49 3 6),
 e (g 50 1 3),
 e (l 51 50),
 e (g 52 2 3),
 e (l 53 52),
 e (m 54 8),
 e (m 55 9),
 e (v 56 (I 24 54 55)),
 e (L 57 24 56),
 h (f 58 F.q2f [(t 49),(t 51),(t 53),(t 57)]),
 a (m 48 58),
 a (x 59 0 48),
 a (x 60 1 48),
 (.last,y 3 6 59),
 a (m 7 60)] [49,50,51,52,53,54,55,56,57,58,48,59,60]))
 (r [
 m 46 9,
 v 47 (p 46 1),
 m 9 47] [46,47]))))))
 (s (r [
 L 61 3 6,
 m 62 7,
 y 3 4 61,
 m 5 62] [61,62])
 .ret)))))))⟩
theorem H.q2u:Has P F.q2u C.q2u:=⟨Tryz.f47,Tryz.func47,by kernel_rfl,by kernel_rfl⟩
noncomputable def C.q1h:MFunc:=⟨45,2,[.cell 4 3 true,.tmp 5],
 (s (r [
 ⟨some 2,none,.box T.apiRoom (t 0)⟩,
 ⟨some 3,none,.box T.apiMove (t 1)⟩,
 ⟨some 4,none,.alloc T.apiRoom q6⟩,
 i 5 0] [])
 (s (r [
 g 12 1 2,
 L 13 2 12,
 g 14 3 3,
 l 15 14,
 f 16 F.q1q [(t 13),(t 15)],
 m 11 16,
 x 17 0 11,
 x 18 1 11,
 x 19 2 11,
 ⟨some 6,none,.alloc T.apiPacket q4⟩,
 ⟨some 7,none,.alloc T.apiNet [.nil,.nil]⟩,
 y 3 6 17,
 y 2 7 18,
 m 8 19] [12,13,14,15,16,11,17,18,19])
 (s (s (r [
 m 20 8,
 v 21 (.bin .neq T.apiErrno (t 20) (c 0))] [20])
 (d 21
 (s (r [
 v 22 (.build q6 []),
 m 23 8,
 y 3 4 22,
 m 5 23] [22,23])
 .ret)
 .skip))
 (s (r [
 L 24 2 7,
 g 25 1 2,
 y 2 25 24] [24,25])
 (s (s (r [
 g 26 0 6,
 l 27 26,
 g 28 1 6,
 l 29 28,
 v 30 (B 27 29)] [26,27,28,29])
 (d 30
 (s (r [
 L 31 3 2,
 y 3 4 31,
 i 5 0] [31])
 .ret)
 .skip))
 (s (r [
 g 33 2 6,
 l 34 33,
 f 35 F.q1r [(t 34)],
 m 32 35,
 x 36 0 32,
 x 37 1 32,
 ⟨some 9,none,.alloc T.apiNote q1⟩,
 y 24 9 36,
 m 10 37] [33,34,35,32,36,37,10])
 (s (r [
 L 38 3 2,
 g 39 1 6,
 l 40 39,
 L 41 24 9,
 f 42 F.q20 [(t 38),(t 40),(t 41)],
 x 43 0 42,
 x 44 1 42,
 y 3 4 43,
 m 5 44] [38,39,40,41,42,43,44])
 .ret)))))))⟩
theorem H.q1h:Has P F.q1h C.q1h:=⟨Tryz.f48,Tryz.func48,by kernel_rfl,by kernel_rfl⟩
noncomputable def C.q2d:MFunc:=⟨17,2,[.cell 4 2 true,.tmp 5],
 (s (r [
 ⟨some 2,none,.box T.apiNet (t 0)⟩,
 ⟨some 4,none,.alloc T.apiNet [.nil,.nil]⟩,
 i 5 0] [])
 (s (r [
 L 7 2 2,
 m 8 1,
 f 9 F.q1x [(t 7),(t 8)],
 m 6 9] [7,8,9])
 (s (s (r [
 m 10 6,
 v 11 (.bin .neq T.apiErrno (t 10) (c 0))] [10])
 (d 11
 (s (r [
 v 12 (.build [.nil,.nil] []),
 m 13 6,
 y 2 4 12,
 m 5 13] [12,13])
 .ret)
 .skip))
 (s (r [
 L 14 2 2,
 m 15 1,
 f 16 F.q2q [(t 14),(t 15)],
 y 2 4 16,
 i 5 0] [14,15,16])
 .ret))))⟩
theorem H.q2d:Has P F.q2d C.q2d:=⟨Tryz.f49,Tryz.func49,by kernel_rfl,by kernel_rfl⟩
noncomputable def C.q1z:MFunc:=⟨23,2,[.cell 4 2 true,.tmp 5],
 (s (r [
 ⟨some 2,none,.box T.apiNet (t 0)⟩,
 ⟨some 4,none,.alloc T.apiNet [.nil,.nil]⟩,
 i 5 0] [])
 (s (r [
 L 7 2 2,
 m 8 1,
 f 9 F.q1x [(t 7),(t 8)],
 m 6 9] [7,8,9])
 (s (s (r [
 m 10 6,
 v 11 (.bin .neq T.apiErrno (t 10) (c 0))] [10])
 (d 11
 (s (r [
 v 12 (.build [.nil,.nil] []),
 m 13 6,
 y 2 4 12,
 m 5 13] [12,13])
 .ret)
 .skip))
 (s (.draw true [
 e (L 14 2 2),
 e (g 15 0 2),
 e (l 16 15),
 e (m 17 1),
 e (v 18 (I 3 16 17)),
 e (L 19 3 18),
 h (f 20 F.q28 [(t 14),(t 19)]),
 a (x 21 0 20),
 a (x 22 1 20),
 (.last,y 2 4 21),
 a (m 5 22)] [14,15,16,17,18,19,20,21,22])
 .ret))))⟩
theorem H.q1z:Has P F.q1z C.q1z:=⟨Tryz.f50,Tryz.func50,by kernel_rfl,by kernel_rfl⟩
noncomputable def C.q4r:MFunc:=⟨2,0,[.cell 0 2 true],
 (s (r [
 ⟨some 0,none,.alloc T.apiNet [.nil,.nil]⟩] [])
 (s (r [
 L 1 2 0,
 y 2 0 1] [1])
 .ret))⟩
theorem H.q4r:Has P F.q4r C.q4r:=⟨Tryz.f51,Tryz.func51,by kernel_rfl,by kernel_rfl⟩
noncomputable def C.q39:MFunc:=⟨2,0,[.cell 0 2 true],
 (s (r [
 ⟨some 0,none,.alloc T.apiNet [.nil,.nil]⟩] [])
 (s (r [
 v 1 (.build [.nil,.nil] []),
 y 2 0 1] [1])
 .ret))⟩
theorem H.q39:Has P F.q39 C.q39:=⟨Tryz.f52,Tryz.func52,by kernel_rfl,by kernel_rfl⟩
noncomputable def C.q3r:MFunc:=⟨41,1,[.tmp 2],
 (s (r [
 ⟨some 1,none,.box T.apiNet (t 0)⟩,
 i 2 0] [])
 (s (s (r [
 g 5 0 1,
 l 6 5,
 v 7 (n 6),
 v 8 (.bin .gtr T.int (t 7) (c 4096)),
 m 9 8,
 z 10 9 (G 0 1),
 z 11 9 (D 10),
 ⟨some 12,some (9,false),.call (.const (.func (.func F.q0w) [] [])) [(t 11),(.const (.func (.func F.q2s) [] []))]⟩,
 v 13 (j 9 12)] [5,6,7,8,9,10,11,12])
 (d 13
 (s (r [
 i 2 60] [])
 .ret)
 .skip))
 (s (s (r [
 g 14 1 1,
 l 15 14,
 v 16 (n 15),
 i 17 0] [14])
 (.block 0 (.loop (s (r [
 v 18 (A 17 16)] [])
 (s (d 18
 .skip
 (.exit 0))
 (s (.block 1 (s (r [
 m 19 17,
 v 20 (I 2 15 17),
 L 21 2 20,
 ⟨some 4,none,.alloc T.t2int q5⟩,
 m 3 19,
 y 2 4 21] [19,20,21])
 (s (.draw true [
 e (L 22 2 4),
 h (f 23 F.q2w [(t 22)]),
 a (v 24 (N 23)),
 a (m 25 24),
 a (z 26 25 (M 3)),
 a (z 27 25 (.bin .gtr T.int (t 26) (c 0))),
 a (z 28 25 (M 27)),
 a (w 29 28 (G 1 1)),
 a (w 30 28 (D 29)),
 a (w 31 28 (M 3)),
 a (w 32 28 (.bin .sub T.int (t 31) (c 1))),
 a (w 33 28 (I 2 30 32)),
 a (w 34 28 (.sliceArr 2 1 (t 33) none none none)),
 a (w 35 28 (.sliceArr 2 1 (t 4) none none none)),
 h (⟨some 36,some (28,true),.call (.const (.func (.func F.q17) [] [])) [(t 34),(t 35)]⟩),
 a (w 37 28 (.bin .geq T.int (t 36) (c 0))),
 a (z 38 25 (k 28 37)),
 a (v 39 (j 25 38))] [22,23,24,25,26,27,28,29,30,31,32,33,34,35,36,37,38])
 (d 39
 (s (r [
 i 2 60] [])
 .ret)
 .skip))))
 (r [
 v 40 (p 17 1),
 m 17 40] [40])))))))
 (s (r [
 i 2 0] [])
 .ret))))⟩
theorem H.q3r:Has P F.q3r C.q3r:=⟨Tryz.f53,Tryz.func53,by kernel_rfl,by kernel_rfl⟩
noncomputable def C.q3s:MFunc:=⟨36,1,[.tmp 2],
 (s (r [
 ⟨some 1,none,.box T.apiPeer (t 0)⟩,
 b 2 false] [])
 (s (s (r [
 g 5 0 1,
 l 6 5,
 v 7 (n 6),
 i 8 0] [5])
 (.block 0 (.loop (s (r [
 v 9 (A 8 7)] [])
 (s (d 9
 .skip
 (.exit 0))
 (s (.block 1 (s (r [
 m 10 8,
 v 11 (I 24 6 8),
 L 12 24 11,
 ⟨some 4,none,.alloc T.apiNote q1⟩,
 m 3 10,
 y 24 4 12] [10,11,12])
 (s (.draw true [
 e (L 13 24 4),
 h (f 14 F.q1y [(t 13)]),
 a (v 15 (N 14)),
 a (m 16 15),
 a (z 17 16 (M 3)),
 a (z 18 16 (.bin .gtr T.int (t 17) (c 0))),
 a (z 19 16 (M 18)),
 a (w 20 19 (G 0 1)),
 a (w 21 19 (D 20)),
 a (w 22 19 (M 3)),
 a (w 23 19 (.bin .sub T.int (t 22) (c 1))),
 a (w 24 19 (I 24 21 23)),
 a (w 25 19 (E 24 24)),
 a (w 26 19 (E 24 4)),
 h (⟨some 27,some (19,true),.call (.const (.func (.func F.q09) [] [])) [(t 25),(t 26)]⟩),
 a (w 28 19 (.bin .geq T.int (t 27) (c 0))),
 a (z 29 16 (k 19 28)),
 a (v 30 (j 16 29))] [13,14,15,16,17,18,19,20,21,22,23,24,25,26,27,28,29])
 (d 30
 (s (r [
 b 2 false] [])
 .ret)
 .skip))))
 (r [
 v 31 (p 8 1),
 m 8 31] [31])))))))
 (s (r [
 g 32 0 1,
 l 33 32,
 v 34 (n 33),
 v 35 (.bin .leq T.int (t 34) (c 4096)),
 m 2 35] [32,33,34,35])
 .ret)))⟩
theorem H.q3s:Has P F.q3s C.q3s:=⟨Tryz.f54,Tryz.func54,by kernel_rfl,by kernel_rfl⟩
noncomputable def C.q16:MFunc:=⟨58,1,[.cell 2 24 true,.tmp 3],
 (s (r [
 ⟨some 2,none,.alloc T.apiNote q1⟩,
 b 3 false] [])
 (s (r [
 m 10 0,
 f 11 F.q4o [(t 10)],
 m 9 11,
 x 12 0 9,
 x 13 1 9,
 ⟨some 4,none,.alloc T.apiValue [(.int 0),(.int 0),(.val (.string ⟨#[]⟩)),.nil]⟩,
 y 4 4 12,
 m 5 13] [10,11,9,12,13])
 (s (r [
 f 14 F.q3v [(t 2)],
 m 6 14] [14])
 (s (s (r [
 m 15 5,
 v 16 (.bin .neq T.apiErrno (t 15) (c 0)),
 m 17 16,
 z 18 17 (G 0 4),
 z 19 17 (D 18),
 z 20 17 (.bin .neq T.int (t 19) (c 3)),
 v 21 (j 17 20),
 m 22 21,
 z 23 22 (G 3 4),
 z 24 22 (D 23),
 z 25 22 (n 24),
 z 26 22 (M 6),
 z 27 22 (n 26),
 z 28 22 (.bin .neq T.int (t 25) (t 27)),
 v 29 (j 22 28)] [15,16,17,18,19,20,21,22,23,24,25,26,27,28])
 (d 29
 (s (r [
 L 30 24 2,
 y 24 2 30,
 b 3 false] [30])
 .ret)
 .skip))
 (s (s (r [
 m 31 6,
 v 32 (n 31),
 i 33 0] [])
 (.block 0 (.loop (s (r [
 v 34 (A 33 32)] [])
 (s (d 34
 .skip
 (.exit 0))
 (s (.block 1 (s (r [
 m 35 33,
 v 36 (I 1 31 33),
 l 37 36,
 m 7 35,
 m 8 37] [35,36,37])
 (s (s (r [
 g 38 3 4,
 l 39 38,
 m 40 7,
 v 41 (I 4 39 40),
 g 42 0 41,
 l 43 42,
 v 44 (.bin .neq T.int (t 43) (c 1))] [38,39,40,41,42,43])
 (d 44
 (s (r [
 L 45 24 2,
 y 24 2 45,
 b 3 false] [45])
 .ret)
 .skip))
 (r [
 m 46 8,
 g 47 3 4,
 l 48 47,
 m 49 7,
 v 50 (I 4 48 49),
 g 51 1 50,
 l 52 51,
 v 53 (.nilCheck (t 46)),
 y 1 53 52] [46,47,48,49,50,51,52,53]))))
 (r [
 v 54 (p 33 1),
 m 33 54] [54])))))))
 (s (.draw true [
 a (L 55 24 2),
 e (L 56 24 2),
 h (f 57 F.q1y [(t 56)]),
 (.last,y 24 2 55),
 a (m 3 57)] [55,56,57])
 .ret))))))⟩
theorem H.q16:Has P F.q16 C.q16:=⟨Tryz.f55,Tryz.func55,by kernel_rfl,by kernel_rfl⟩
noncomputable def C.q2m:MFunc:=⟨91,1,[.tmp 2],
 (s (r [
 ⟨some 1,none,.box T.apiNet (t 0)⟩,
 i 2 0] [])
 (s (s (r [
 g 6 0 1,
 l 7 6,
 v 8 (n 7),
 v 9 (.bin .gtr T.int (t 8) (c 4096))] [6,7,8])
 (d 9
 (s (r [
 i 2 60] [])
 .ret)
 .skip))
 (s (s (r [
 i 3 0] [])
 (.block 0 (.loop (s (s (r [
 m 10 3,
 g 11 0 1,
 l 12 11,
 v 13 (n 12),
 v 14 (A 10 13)] [10,11,12,13])
 (d 14
 .skip
 (.exit 0)))
 (s (.block 1 (s (r [
 g 17 0 1,
 l 18 17,
 m 19 3,
 v 20 (I 3 18 19),
 L 21 3 20,
 f 22 F.q2x [(t 21)],
 v 23 (N 22)] [17,18,19,20,21,22])
 (d 23
 (s (r [
 i 2 60] [])
 .ret)
 .skip)))
 (r [
 m 15 3,
 v 16 (p 15 1),
 m 3 16] [15,16]))))))
 (s (s (r [
 i 4 0] [])
 (.block 2 (.loop (s (s (r [
 m 24 4,
 g 25 1 1,
 l 26 25,
 v 27 (n 26),
 v 28 (A 24 27)] [24,25,26,27])
 (d 28
 .skip
 (.exit 2)))
 (s (.block 3 (s (r [
 g 31 1 1,
 l 32 31,
 m 33 4,
 v 34 (I 2 32 33),
 L 35 2 34,
 ⟨some 5,none,.alloc T.t2int q5⟩,
 y 2 5 35] [31,32,33,34,35])
 (s (s (r [
 v 36 (.indexArr 2 1 (t 5) (c 0)),
 l 37 36,
 f 38 F.q2g [(t 37)],
 v 39 (N 38),
 m 40 39,
 z 41 40 (.indexArr 2 1 (t 5) (c 1)),
 z 42 40 (D 41),
 ⟨some 43,some (40,false),.call (.const (.func (.func F.q2g) [] [])) [(t 42)]⟩,
 z 44 40 (N 43),
 v 45 (j 40 44),
 m 46 45,
 z 47 46 (.indexArr 2 1 (t 5) (c 0)),
 z 48 46 (D 47),
 z 49 46 (.indexArr 2 1 (t 5) (c 1)),
 z 50 46 (D 49),
 z 51 46 (.bin .geq T.int (t 48) (t 50)),
 v 52 (j 46 51)] [36,37,38,39,40,41,42,43,44,45,46,47,48,49,50,51])
 (d 52
 (s (r [
 i 2 60] [])
 .ret)
 .skip))
 (s (.draw false (
 e (m 53 4) ::
 e (v 54 (.bin .gtr T.int (t 53) (c 0))) ::
 e (m 55 54) ::
 e (w 56 55 (.indexArr 2 1 (t 5) (c 0))) ::
 e (w 57 55 (D 56)) ::
 e (w 58 55 (G 1 1)) ::
 e (w 59 55 (D 58)) ::
 e (w 60 55 (M 4)) ::
 e (w 61 55 (.bin .sub T.int (t 60) (c 1))) ::
 e (w 62 55 (I 2 59 61)) ::
 e (w 63 55 (.indexArr 2 1 (t 62) (c 0))) ::
 e (w 64 55 (D 63)) ::
 e (w 65 55 (A 57 64)) ::
 e (w 66 55 (M 65)) ::
 e (z 67 66 (.indexArr 2 1 (t 5) (c 0))) ::
 e (z 68 66 (D 67)) ::
 e (z 69 66 (G 1 1)) ::
 e (z 70 66 (D 69)) ::
 e (z 71 66 (M 4)) ::
 e (z 72 66 (.bin .sub T.int (t 71) (c 1))) ::
 e (z 73 66 (I 2 70 72)) ::
 e (z 74 66 (.indexArr 2 1 (t 73) (c 0))) ::
 e (z 75 66 (D 74)) ::
 e (z 76 66 (B 68 75)) ::
 e (z 77 66 (M 76)) ::
 e (w 78 77 (.indexArr 2 1 (t 5) (c 1))) ::
 e (w 79 77 (D 78)) ::
 e (w 80 77 (G 1 1)) ::
 e (w 81 77 (D 80)) ::
 e (w 82 77 (M 4)) ::
 e (w 83 77 (.bin .sub T.int (t 82) (c 1))) ::
 e (w 84 77 (I 2 81 83)) ::
 e (w 85 77 (.indexArr 2 1 (t 84) (c 1))) ::
 e (w 86 77 (D 85)) ::
 e (w 87 77 (.bin .leq T.int (t 79) (t 86))) ::
 e (z 88 66 (k 77 87)) ::
 e (w 89 55 (j 66 88)) ::
 e (v 90 (k 55 89))::[]) (53::54::55::56::57::58::59::60::61::62::63::64::65::66::67::68::69::70::71::72::73::74::75::76::77::78::79::80::81::82::83::84::85::86::87::88::89::[]))
 (d 90
 (s (r [
 i 2 60] [])
 .ret)
 .skip)))))
 (r [
 m 29 4,
 v 30 (p 29 1),
 m 4 30] [29,30]))))))
 (s (r [
 i 2 0] [])
 .ret)))))⟩
theorem H.q2m:Has P F.q2m C.q2m:=⟨Tryz.f56,Tryz.func56,by kernel_rfl,by kernel_rfl⟩
noncomputable def C.q1r:MFunc:=⟨80,1,[.cell 2 24 true,.tmp 3],
 (s (r [
 ⟨some 2,none,.alloc T.apiNote q1⟩,
 b 3 false] [])
 (s (r [
 m 10 0,
 f 11 F.q3a [(t 10)],
 m 9 11,
 x 12 0 9,
 x 13 1 9,
 ⟨some 4,none,.alloc T.apiValue [(.int 0),(.int 0),(.val (.string ⟨#[]⟩)),.nil]⟩,
 y 4 4 12,
 m 5 13] [10,11,9,12,13])
 (s (s (r [
 m 14 5,
 v 15 (.bin .neq T.apiErrno (t 14) (c 0)),
 m 16 15,
 z 17 16 (G 0 4),
 z 18 16 (D 17),
 z 19 16 (.bin .neq T.int (t 18) (c 3)),
 v 20 (j 16 19),
 m 21 20,
 z 22 21 (G 3 4),
 z 23 21 (D 22),
 z 24 21 (n 23),
 z 25 21 (.bin .neq T.int (t 24) (c 24)),
 v 26 (j 21 25)] [14,15,16,17,18,19,20,21,22,23,24,25])
 (d 26
 (s (r [
 v 27 (.build q1 []),
 y 24 2 27,
 b 3 false] [27])
 .ret)
 .skip))
 (s (r [
 v 28 (.buildSlice T.int 0 [] []),
 m 6 28] [28])
 (s (s (r [
 i 7 0] [])
 (.block 0 (.loop (s (s (r [
 m 29 7,
 v 30 (.bin .lss T.int (t 29) (c 24))] [29])
 (d 30
 .skip
 (.exit 0)))
 (s (.block 1 (s (s (r [
 g 33 3 4,
 l 34 33,
 m 35 7,
 v 36 (I 4 34 35),
 g 37 0 36,
 l 38 37,
 v 39 (.bin .neq T.int (t 38) (c 1))] [33,34,35,36,37,38])
 (d 39
 (s (r [
 v 40 (.build q1 []),
 y 24 2 40,
 b 3 false] [40])
 .ret)
 .skip))
 (r [
 m 41 6,
 g 42 3 4,
 l 43 42,
 m 44 7,
 v 45 (I 4 43 44),
 g 46 1 45,
 l 47 46,
 v 48 (.buildSlice T.int 1 [(.int 0)] [(0,1,(t 47))]),
 ⟨some 49,none,.append T.int 8 1 (t 41) (t 48)⟩,
 m 6 49] [41,42,43,44,45,46,47,48,49])))
 (r [
 m 31 7,
 v 32 (p 31 1),
 m 7 32] [31,32]))))))
 (s (.draw true [
 a (m 50 6),
 a (v 51 (.indexAddr 1 (t 50) (c 0))),
 a (l 52 51),
 a (m 53 6),
 a (v 54 (.slice 1 (t 53) (some (c 1)) (some (c 10)) none)),
 a (f 55 F.q3w [(t 54)]),
 a (v 56 (.build q1 [(0,1,(t 52)),(1,9,(t 55))])),
 h (⟨some 8,none,.alloc T.apiNote q1⟩),
 (.last,y 24 8 56)] [50,51,52,53,54,55,56])
 (s (.draw true [
 a (m 57 6),
 a (v 58 (.indexAddr 1 (t 57) (c 10))),
 a (l 59 58),
 a (m 60 6),
 a (v 61 (.indexAddr 1 (t 60) (c 11))),
 a (l 62 61),
 a (m 63 6),
 a (v 64 (.indexAddr 1 (t 63) (c 12))),
 a (l 65 64),
 a (m 66 6),
 a (v 67 (.indexAddr 1 (t 66) (c 13))),
 a (l 68 67),
 a (m 69 6),
 a (v 70 (.indexAddr 1 (t 69) (c 14))),
 a (l 71 70),
 e (m 72 6),
 e (v 73 (.slice 1 (t 72) (some (c 15)) (some (c 24)) none)),
 h (f 74 F.q3w [(t 73)]),
 a (v 75 (.build q2 [(0,1,(t 59)),(1,1,(t 62)),(2,1,(t 65)),(3,1,(t 68)),(4,1,(t 71)),(5,9,(t 74))])),
 a (g 76 10 8),
 (.last,y 14 76 75)] [57,58,59,60,61,62,63,64,65,66,67,68,69,70,71,72,73,74,75,76])
 (s (.draw true [
 a (L 77 24 8),
 e (L 78 24 8),
 h (f 79 F.q1c [(t 78)]),
 (.last,y 24 2 77),
 a (m 3 79)] [77,78,79])
 .ret))))))))⟩
theorem H.q1r:Has P F.q1r C.q1r:=⟨Tryz.f57,Tryz.func57,by kernel_rfl,by kernel_rfl⟩
noncomputable def C.q3u:MFunc:=⟨60,2,[.tmp 4],
 (s (r [
 ⟨some 2,none,.box T.apiNet (t 0)⟩,
 ⟨some 3,none,.box T.apiNet (t 1)⟩,
 b 4 false] [])
 (s (s (r [
 g 7 0 2,
 l 8 7,
 v 9 (n 8),
 g 10 0 3,
 l 11 10,
 v 12 (n 11),
 v 13 (.bin .neq T.int (t 9) (t 12)),
 m 14 13,
 z 15 14 (G 1 2),
 z 16 14 (D 15),
 z 17 14 (n 16),
 z 18 14 (G 1 3),
 z 19 14 (D 18),
 z 20 14 (n 19),
 z 21 14 (.bin .neq T.int (t 17) (t 20)),
 v 22 (j 14 21)] [7,8,9,10,11,12,13,14,15,16,17,18,19,20,21])
 (d 22
 (s (r [
 b 4 false] [])
 .ret)
 .skip))
 (s (s (r [
 i 5 0] [])
 (.block 0 (.loop (s (s (r [
 m 23 5,
 g 24 0 2,
 l 25 24,
 v 26 (n 25),
 v 27 (A 23 26)] [23,24,25,26])
 (d 27
 .skip
 (.exit 0)))
 (s (.block 1 (s (.draw true [
 e (g 30 0 2),
 e (l 31 30),
 e (m 32 5),
 e (v 33 (I 3 31 32)),
 e (L 34 3 33),
 e (g 35 0 3),
 e (l 36 35),
 e (m 37 5),
 e (v 38 (I 3 36 37)),
 e (L 39 3 38),
 h (f 40 F.q2l [(t 34),(t 39)]),
 a (v 41 (N 40))] [30,31,32,33,34,35,36,37,38,39,40])
 (d 41
 (s (r [
 b 4 false] [])
 .ret)
 .skip)))
 (r [
 m 28 5,
 v 29 (p 28 1),
 m 5 29] [28,29]))))))
 (s (s (r [
 i 6 0] [])
 (.block 2 (.loop (s (s (r [
 m 42 6,
 g 43 1 2,
 l 44 43,
 v 45 (n 44),
 v 46 (A 42 45)] [42,43,44,45])
 (d 46
 .skip
 (.exit 2)))
 (s (.block 3 (s (.draw false [
 e (g 49 1 2),
 e (l 50 49),
 e (m 51 6),
 e (v 52 (I 2 50 51)),
 e (L 53 2 52),
 e (g 54 1 3),
 e (l 55 54),
 e (m 56 6),
 e (v 57 (I 2 55 56)),
 e (L 58 2 57),
 e (v 59 (.eqAgg true [.int,.int] (t 53) (t 58)))] [49,50,51,52,53,54,55,56,57,58])
 (d 59
 (s (r [
 b 4 false] [])
 .ret)
 .skip)))
 (r [
 m 47 6,
 v 48 (p 47 1),
 m 6 48] [47,48]))))))
 (s (r [
 b 4 true] [])
 .ret)))))⟩
theorem H.q3u:Has P F.q3u C.q3u:=⟨Tryz.f58,Tryz.func58,by kernel_rfl,by kernel_rfl⟩
noncomputable def C.q0e:MFunc:=⟨9,2,[],
 (r [
 m 4 0,
 m 5 0,
 v 6 (n 5),
 m 7 1,
 f 8 F.q0y [(t 4),(t 6),(t 7)]] [4,5,6,7,8])⟩
theorem H.q0e:Has P F.q0e C.q0e:=⟨Tryz.f60,Tryz.func60,by kernel_rfl,by kernel_rfl⟩
noncomputable def C.q24:MFunc:=⟨10,2,[.tmp 4],
 (s (r [
 ⟨some 2,none,.box T.apiEvent (t 0)⟩,
 ⟨some 3,none,.box T.apiEvent (t 1)⟩,
 i 4 0] [])
 (s (r [
 g 5 0 2,
 l 6 5,
 g 7 0 3,
 l 8 7,
 f 9 F.q2y [(t 6),(t 8)],
 m 4 9] [5,6,7,8,9])
 .ret))⟩
theorem H.q24:Has P F.q24 C.q24:=⟨Tryz.f61,Tryz.func61,by kernel_rfl,by kernel_rfl⟩
noncomputable def C.q2y:MFunc:=⟨20,2,[.tmp 4],
 (s (r [
 i 4 0] [])
 (s (r [
 m 7 0,
 f 8 F.q3x [(t 7)],
 m 5 8] [7,8])
 (s (r [
 m 9 1,
 f 10 F.q3x [(t 9)],
 m 6 10] [9,10])
 (s (s (r [
 m 11 5] [])
 (d 11
 (s (s (r [
 m 12 6] [])
 (d 12
 (s (r [
 i 4 0] [])
 .ret)
 .skip))
 (s (r [
 v 4 (.mv (.const (.int (-1))))] [])
 .ret))
 .skip))
 (s (s (r [
 m 13 6] [])
 (d 13
 (s (r [
 i 4 1] [])
 .ret)
 .skip))
 (s (s (r [
 m 14 0,
 m 15 1,
 v 16 (A 14 15)] [14,15])
 (d 16
 (s (r [
 v 4 (.mv (.const (.int (-1))))] [])
 .ret)
 .skip))
 (s (s (r [
 m 17 0,
 m 18 1,
 v 19 (.bin .gtr T.int (t 17) (t 18))] [17,18])
 (d 19
 (s (r [
 i 4 1] [])
 .ret)
 .skip))
 (s (r [
 i 4 0] [])
 .ret))))))))⟩
theorem H.q2y:Has P F.q2y C.q2y:=⟨Tryz.f62,Tryz.func62,by kernel_rfl,by kernel_rfl⟩
noncomputable def C.q0b:MFunc:=⟨9,2,[],
 (r [
 m 4 0,
 m 5 0,
 v 6 (n 5),
 m 7 1,
 f 8 F.q0t [(t 4),(t 6),(t 7)]] [4,5,6,7,8])⟩
theorem H.q0b:Has P F.q0b C.q0b:=⟨Tryz.f63,Tryz.func63,by kernel_rfl,by kernel_rfl⟩
noncomputable def C.q25:MFunc:=⟨10,2,[.tmp 4],
 (s (r [
 ⟨some 2,none,.box T.apiDecision (t 0)⟩,
 ⟨some 3,none,.box T.apiDecision (t 1)⟩,
 i 4 0] [])
 (s (r [
 g 5 0 2,
 l 6 5,
 g 7 0 3,
 l 8 7,
 f 9 F.q2y [(t 6),(t 8)],
 m 4 9] [5,6,7,8,9])
 .ret))⟩
theorem H.q25:Has P F.q25 C.q25:=⟨Tryz.f64,Tryz.func64,by kernel_rfl,by kernel_rfl⟩
noncomputable def C.q0i:MFunc:=⟨66,2,[.tmp 4],
 (s (r [
 v 4 (.mv (.const .nil))] [])
 (s (s (r [
 m 8 0,
 v 9 (n 8),
 v 10 (.bin .lss T.int (t 9) (c 2))] [8,9])
 (d 10
 (s (r [
 m 11 0,
 m 4 11] [11])
 .ret)
 .skip))
 (s (s (r [
 i 5 1] [])
 (.block 0 (.loop (s (s (r [
 m 12 5,
 m 13 0,
 v 14 (n 13),
 v 15 (A 12 14)] [12,13,14])
 (d 15
 .skip
 (.exit 0)))
 (s (.block 1 (s (.draw false [
 e (m 18 1),
 e (m 19 0),
 e (m 20 5),
 e (v 21 (I 9 19 20)),
 e (L 22 9 21),
 e (m 23 0),
 e (m 24 5),
 e (v 25 (.bin .sub T.int (t 24) (c 1))),
 e (v 26 (I 9 23 25)),
 e (L 27 9 26),
 h (⟨some 28,none,.call (t 18) [(t 22),(t 27)]⟩)] [18,19,20,21,22,23,24,25,26,27])
 (d 28
 (s (r [
 m 29 0,
 m 30 5,
 v 31 (.slice 9 (t 29) (some (t 30)) none none),
 m 6 31] [29,30,31])
 (s (s (r [
 i 7 1] [])
 (.block 2 (.loop (s (s (r [
 m 32 7,
 m 33 6,
 v 34 (n 33),
 v 35 (A 32 34)] [32,33,34])
 (d 35
 .skip
 (.exit 2)))
 (s (.block 3 (s (.draw true [
 e (m 38 1),
 e (m 39 6),
 e (m 40 7),
 e (v 41 (I 9 39 40)),
 e (L 42 9 41),
 e (m 43 6),
 e (m 44 7),
 e (v 45 (.bin .sub T.int (t 44) (c 1))),
 e (v 46 (I 9 43 45)),
 e (L 47 9 46),
 h (⟨some 48,none,.call (t 38) [(t 42),(t 47)]⟩),
 a (v 49 (N 48))] [38,39,40,41,42,43,44,45,46,47,48])
 (d 49
 (s (r [
 m 50 0,
 m 51 5,
 m 52 6,
 m 53 7,
 v 54 (I 9 52 53),
 L 55 9 54,
 v 56 (I 9 50 51),
 y 9 56 55] [50,51,52,53,54,55,56])
 (r [
 m 57 5,
 v 58 (p 57 1),
 m 5 58] [57,58]))
 .skip)))
 (r [
 m 36 7,
 v 37 (p 36 1),
 m 7 37] [36,37]))))))
 (s (r [
 m 59 0,
 m 60 5,
 v 61 (.slice 9 (t 59) (some (t 60)) none none),
 ⟨none,none,.clear 9 q3 (t 61)⟩] [59,60,61])
 (s (r [
 m 62 0,
 m 63 5,
 v 64 (.slice 9 (t 62) none (some (t 63)) none),
 m 4 64] [62,63,64])
 .ret))))
 .skip)))
 (r [
 m 16 5,
 v 17 (p 16 1),
 m 5 17] [16,17]))))))
 (s (r [
 m 65 0,
 m 4 65] [65])
 .ret))))⟩
theorem H.q0i:Has P F.q0i C.q0i:=⟨Tryz.f65,Tryz.func65,by kernel_rfl,by kernel_rfl⟩
noncomputable def C.q3e:MFunc:=⟨10,2,[.tmp 4],
 (s (r [
 ⟨some 2,none,.box T.apiEvent (t 0)⟩,
 ⟨some 3,none,.box T.apiEvent (t 1)⟩,
 b 4 false] [])
 (s (r [
 g 5 0 2,
 l 6 5,
 g 7 0 3,
 l 8 7,
 v 9 (B 6 8),
 m 4 9] [5,6,7,8,9])
 .ret))⟩
theorem H.q3e:Has P F.q3e C.q3e:=⟨Tryz.f66,Tryz.func66,by kernel_rfl,by kernel_rfl⟩
noncomputable def C.q0d:MFunc:=⟨66,2,[.tmp 4],
 (s (r [
 v 4 (.mv (.const .nil))] [])
 (s (s (r [
 m 8 0,
 v 9 (n 8),
 v 10 (.bin .lss T.int (t 9) (c 2))] [8,9])
 (d 10
 (s (r [
 m 11 0,
 m 4 11] [11])
 .ret)
 .skip))
 (s (s (r [
 i 5 1] [])
 (.block 0 (.loop (s (s (r [
 m 12 5,
 m 13 0,
 v 14 (n 13),
 v 15 (A 12 14)] [12,13,14])
 (d 15
 .skip
 (.exit 0)))
 (s (.block 1 (s (.draw false [
 e (m 18 1),
 e (m 19 0),
 e (m 20 5),
 e (v 21 (I 14 19 20)),
 e (L 22 14 21),
 e (m 23 0),
 e (m 24 5),
 e (v 25 (.bin .sub T.int (t 24) (c 1))),
 e (v 26 (I 14 23 25)),
 e (L 27 14 26),
 h (⟨some 28,none,.call (t 18) [(t 22),(t 27)]⟩)] [18,19,20,21,22,23,24,25,26,27])
 (d 28
 (s (r [
 m 29 0,
 m 30 5,
 v 31 (.slice 14 (t 29) (some (t 30)) none none),
 m 6 31] [29,30,31])
 (s (s (r [
 i 7 1] [])
 (.block 2 (.loop (s (s (r [
 m 32 7,
 m 33 6,
 v 34 (n 33),
 v 35 (A 32 34)] [32,33,34])
 (d 35
 .skip
 (.exit 2)))
 (s (.block 3 (s (.draw true [
 e (m 38 1),
 e (m 39 6),
 e (m 40 7),
 e (v 41 (I 14 39 40)),
 e (L 42 14 41),
 e (m 43 6),
 e (m 44 7),
 e (v 45 (.bin .sub T.int (t 44) (c 1))),
 e (v 46 (I 14 43 45)),
 e (L 47 14 46),
 h (⟨some 48,none,.call (t 38) [(t 42),(t 47)]⟩),
 a (v 49 (N 48))] [38,39,40,41,42,43,44,45,46,47,48])
 (d 49
 (s (r [
 m 50 0,
 m 51 5,
 m 52 6,
 m 53 7,
 v 54 (I 14 52 53),
 L 55 14 54,
 v 56 (I 14 50 51),
 y 14 56 55] [50,51,52,53,54,55,56])
 (r [
 m 57 5,
 v 58 (p 57 1),
 m 5 58] [57,58]))
 .skip)))
 (r [
 m 36 7,
 v 37 (p 36 1),
 m 7 37] [36,37]))))))
 (s (r [
 m 59 0,
 m 60 5,
 v 61 (.slice 14 (t 59) (some (t 60)) none none),
 ⟨none,none,.clear 14 q2 (t 61)⟩] [59,60,61])
 (s (r [
 m 62 0,
 m 63 5,
 v 64 (.slice 14 (t 62) none (some (t 63)) none),
 m 4 64] [62,63,64])
 .ret))))
 .skip)))
 (r [
 m 16 5,
 v 17 (p 16 1),
 m 5 17] [16,17]))))))
 (s (r [
 m 65 0,
 m 4 65] [65])
 .ret))))⟩
theorem H.q0d:Has P F.q0d C.q0d:=⟨Tryz.f67,Tryz.func67,by kernel_rfl,by kernel_rfl⟩
noncomputable def C.q3f:MFunc:=⟨10,2,[.tmp 4],
 (s (r [
 ⟨some 2,none,.box T.apiDecision (t 0)⟩,
 ⟨some 3,none,.box T.apiDecision (t 1)⟩,
 b 4 false] [])
 (s (r [
 g 5 0 2,
 l 6 5,
 g 7 0 3,
 l 8 7,
 v 9 (B 6 8),
 m 4 9] [5,6,7,8,9])
 .ret))⟩
theorem H.q3f:Has P F.q3f C.q3f:=⟨Tryz.f68,Tryz.func68,by kernel_rfl,by kernel_rfl⟩
noncomputable def C.q19:MFunc:=⟨30,1,[.tmp 2],
 (s (r [
 ⟨some 1,none,.box T.apiNote (t 0)⟩,
 ⟨some 2,none,.val (.mv (.const (.val (.string ⟨#[]⟩))))⟩] [])
 (s (r [
 v 3 (.mv (.const .nil))] [])
 (s (s (r [
 f 8 F.q3v [(t 1)],
 v 9 (n 8),
 i 10 0] [])
 (.block 0 (.loop (s (r [
 v 11 (A 10 9)] [])
 (s (d 11
 .skip
 (.exit 0))
 (s (.block 1 (s (r [
 v 12 (I 1 8 10),
 l 13 12,
 m 5 13] [12,13])
 (r [
 m 14 3,
 m 15 5,
 v 16 (.nilCheck (t 15)),
 l 17 16,
 ⟨some 18,none,.val (.build [(.int 0),(.int 0),(.val (.string ⟨#[]⟩)),.nil] [(0,1,(c 1)),(1,1,(t 17))])⟩,
 ⟨some 19,none,.val (.buildSlice T.apiValue 1 [(.int 0),(.int 0),(.val (.string ⟨#[]⟩)),.nil] [(0,4,(t 18))])⟩,
 ⟨some 20,none,.append T.apiValue 56 4 (t 14) (t 19)⟩,
 m 3 20] [14,15,16,17,18,19,20])))
 (r [
 v 21 (p 10 1),
 m 10 21] [21])))))))
 (s (r [
 m 23 3,
 ⟨some 24,none,.val (.build [(.int 0),(.int 0),(.val (.string ⟨#[]⟩)),.nil] [(0,1,(c 3)),(3,1,(t 23))])⟩,
 f 25 F.q36 [(t 24)],
 m 22 25,
 x 26 0 22,
 x 27 1 22,
 m 6 26,
 m 7 27] [23,24,25,22,26,27,7])
 (s (r [
 m 28 6,
 v 29 (.strOf (t 28)),
 m 2 29] [28,29])
 .ret)))))⟩
theorem H.q19:Has P F.q19 C.q19:=⟨Tryz.f71,Tryz.func71,by kernel_rfl,by kernel_rfl⟩
noncomputable def C.q0l:MFunc:=⟨14,2,[],
 (s (r [
 m 5 0,
 v 6 (n 5),
 m 4 6] [5,6])
 (r [
 m 7 0,
 m 8 4,
 m 9 4,
 v 10 (.toInt .u64 (t 9)),
 f 11 F.q4k [(t 10)],
 m 12 1,
 f 13 F.q0z [(t 7),(c 0),(t 8),(t 11),(t 12)]] [7,8,9,10,11,12,13]))⟩
theorem H.q0l:Has P F.q0l C.q0l:=⟨Tryz.f72,Tryz.func72,by kernel_rfl,by kernel_rfl⟩
noncomputable def C.q09:MFunc:=⟨10,2,[.tmp 4],
 (s (r [
 ⟨some 2,none,.box T.apiNote (t 0)⟩,
 ⟨some 3,none,.box T.apiNote (t 1)⟩,
 i 4 0] [])
 (s (.draw true [
 e (L 5 24 2),
 a (L 7 24 3),
 h (f 6 F.q19 [(t 5)]),
 h (f 8 F.q19 [(t 7)]),
 h (f 9 F.q4a [(t 6),(t 8)]),
 a (m 4 9)] [5,6,7,8,9])
 .ret))⟩
theorem H.q09:Has P F.q09 C.q09:=⟨Tryz.f73,Tryz.func73,by kernel_rfl,by kernel_rfl⟩
noncomputable def C.q0p:MFunc:=⟨61,1,[.tmp 2],
 (s (r [
 v 2 (.mv (.const .nil))] [])
 (s (s (r [
 m 6 0,
 v 7 (n 6),
 v 8 (.bin .lss T.int (t 7) (c 2))] [6,7])
 (d 8
 (s (r [
 m 9 0,
 m 2 9] [9])
 .ret)
 .skip))
 (s (s (r [
 i 3 1] [])
 (.block 0 (.loop (s (s (r [
 m 10 3,
 m 11 0,
 v 12 (n 11),
 v 13 (A 10 12)] [10,11,12])
 (d 13
 .skip
 (.exit 0)))
 (s (.block 1 (s (.draw false [
 e (m 16 0),
 e (m 17 3),
 e (v 18 (I 24 16 17)),
 e (L 19 24 18),
 e (m 20 0),
 e (m 21 3),
 e (v 22 (.bin .sub T.int (t 21) (c 1))),
 e (v 23 (I 24 20 22)),
 e (L 24 24 23),
 e (v 25 (.eqAgg false [.int,.int,.int,.int,.int,.int,.int,.int,.int,.int,.int,.int,.int,.int,.int,.int,.int,.int,.int,.int,.int,.int,.int,.int] (t 19) (t 24)))] [16,17,18,19,20,21,22,23,24])
 (d 25
 (s (r [
 m 26 0,
 m 27 3,
 v 28 (.slice 24 (t 26) (some (t 27)) none none),
 m 4 28] [26,27,28])
 (s (s (r [
 i 5 1] [])
 (.block 2 (.loop (s (s (r [
 m 29 5,
 m 30 4,
 v 31 (n 30),
 v 32 (A 29 31)] [29,30,31])
 (d 32
 .skip
 (.exit 2)))
 (s (.block 3 (s (.draw false [
 e (m 35 4),
 e (m 36 5),
 e (v 37 (I 24 35 36)),
 e (L 38 24 37),
 e (m 39 4),
 e (m 40 5),
 e (v 41 (.bin .sub T.int (t 40) (c 1))),
 e (v 42 (I 24 39 41)),
 e (L 43 24 42),
 e (v 44 (.eqAgg true [.int,.int,.int,.int,.int,.int,.int,.int,.int,.int,.int,.int,.int,.int,.int,.int,.int,.int,.int,.int,.int,.int,.int,.int] (t 38) (t 43)))] [35,36,37,38,39,40,41,42,43])
 (d 44
 (s (r [
 m 45 0,
 m 46 3,
 m 47 4,
 m 48 5,
 v 49 (I 24 47 48),
 L 50 24 49,
 v 51 (I 24 45 46),
 y 24 51 50] [45,46,47,48,49,50,51])
 (r [
 m 52 3,
 v 53 (p 52 1),
 m 3 53] [52,53]))
 .skip)))
 (r [
 m 33 5,
 v 34 (p 33 1),
 m 5 34] [33,34]))))))
 (s (r [
 m 54 0,
 m 55 3,
 v 56 (.slice 24 (t 54) (some (t 55)) none none),
 ⟨none,none,.clear 24 q1 (t 56)⟩] [54,55,56])
 (s (r [
 m 57 0,
 m 58 3,
 v 59 (.slice 24 (t 57) none (some (t 58)) none),
 m 2 59] [57,58,59])
 .ret))))
 .skip)))
 (r [
 m 14 3,
 v 15 (p 14 1),
 m 3 15] [14,15]))))))
 (s (r [
 m 60 0,
 m 2 60] [60])
 .ret))))⟩
theorem H.q0p:Has P F.q0p C.q0p:=⟨Tryz.f74,Tryz.func74,by kernel_rfl,by kernel_rfl⟩
noncomputable def C.q3m:MFunc:=⟨49,2,[.tmp 4,.tmp 5],
 (s (r [
 ⟨some 3,none,.box T.apiNote (t 1)⟩,
 v 4 (.mv (.const .nil)),
 i 5 0] [])
 (s (r [
 i 6 0] [])
 (s (.block 0 (.loop (s (s (.draw true [
 e (m 7 6),
 e (m 8 0),
 e (v 9 (n 8)),
 e (v 10 (A 7 9)),
 e (m 11 10),
 e (w 12 11 (M 0)),
 e (w 13 11 (M 6)),
 e (w 14 11 (I 24 12 13)),
 e (w 15 11 (E 24 14)),
 e (w 16 11 (E 24 3)),
 h (⟨some 17,some (11,true),.call (.const (.func (.func F.q2v) [] [])) [(t 15),(t 16)]⟩),
 a (v 18 (k 11 17))] [7,8,9,10,11,12,13,14,15,16,17])
 (d 18
 .skip
 (.exit 0)))
 (.block 1 (r [
 m 19 6,
 v 20 (p 19 1),
 m 6 20] [19,20])))))
 (s (s (.draw false [
 e (m 21 6),
 e (m 22 0),
 e (v 23 (n 22)),
 e (v 24 (A 21 23)),
 e (m 25 24),
 e (w 26 25 (M 0)),
 e (w 27 25 (M 6)),
 e (w 28 25 (I 24 26 27)),
 e (w 29 25 (E 24 28)),
 e (w 30 25 (E 24 3)),
 e (w 31 25 (.eqAgg false [.int,.int,.int,.int,.int,.int,.int,.int,.int,.int,.int,.int,.int,.int,.int,.int,.int,.int,.int,.int,.int,.int,.int,.int] (t 29) (t 30))),
 e (v 32 (k 25 31))] [21,22,23,24,25,26,27,28,29,30,31])
 (d 32
 (s (r [
 m 33 0,
 m 4 33,
 i 5 0] [33])
 .ret)
 .skip))
 (s (s (r [
 m 34 0,
 v 35 (n 34),
 v 36 (.bin .eql T.int (t 35) (c 4096))] [34,35])
 (d 36
 (s (r [
 v 4 (.mv (.const .nil)),
 i 5 2] [])
 .ret)
 .skip))
 (s (.draw true [
 e (v 37 (.buildSlice T.apiNote 0 [] [])),
 e (m 38 0),
 e (m 39 6),
 e (v 40 (.slice 24 (t 38) none (some (t 39)) none)),
 a (L 42 24 3),
 a (v 43 (.buildSlice T.apiNote 1 q1 [(0,24,(t 42))])),
 a (m 45 0),
 a (m 46 6),
 a (v 47 (.slice 24 (t 45) (some (t 46)) none none)),
 h (⟨some 41,none,.append T.apiNote 192 24 (t 37) (t 40)⟩),
 h (⟨some 44,none,.append T.apiNote 192 24 (t 41) (t 43)⟩),
 h (⟨some 48,none,.append T.apiNote 192 24 (t 44) (t 47)⟩),
 a (m 4 48),
 a (i 5 0)] [37,38,39,40,41,42,43,44,45,46,47,48])
 .ret))))))⟩
theorem H.q3m:Has P F.q3m C.q3m:=⟨Tryz.f75,Tryz.func75,by kernel_rfl,by kernel_rfl⟩
noncomputable def C.q1c:MFunc:=⟨31,1,[.tmp 2],
 (s (r [
 ⟨some 1,none,.box T.apiNote (t 0)⟩,
 b 2 false] [])
 (s (s (r [
 g 3 0 1,
 l 4 3,
 v 5 (.bin .eql T.int (t 4) (c 1))] [3,4])
 (d 5
 (s (r [
 g 6 1 1,
 L 7 9 6,
 f 8 F.q21 [(t 7)],
 m 9 8,
 w 10 9 (G 10 1),
 w 11 9 (E 14 10),
 w 12 9 (.build q2 []),
 w 13 9 (.eqAgg false [.int,.int,.int,.int,.int,.int,.int,.int,.int,.int,.int,.int,.int,.int] (t 11) (t 12)),
 v 14 (k 9 13),
 m 2 14] [6,7,8,9,10,11,12,13,14])
 .ret)
 .skip))
 (s (r [
 g 15 0 1,
 l 16 15,
 v 17 (.bin .eql T.int (t 16) (c 2)),
 m 18 17,
 w 19 18 (G 10 1),
 w 20 18 (E 14 19),
 w 21 18 (.buildSlice T.apiDecision 1 q2 [(0,14,(t 20))]),
 ⟨some 22,some (18,true),.call (.const (.func (.func F.q22) [] [])) [(t 21)]⟩,
 w 23 18 (.bin .eql T.apiErrno (t 22) (c 0)),
 v 24 (k 18 23),
 m 25 24,
 w 26 25 (G 1 1),
 w 27 25 (E 9 26),
 w 28 25 (.build q3 []),
 w 29 25 (.eqAgg false [.int,.int,.int,.int,.int,.int,.int,.int,.int] (t 27) (t 28)),
 v 30 (k 25 29),
 m 2 30] [15,16,17,18,19,20,21,22,23,24,25,26,27,28,29,30])
 .ret)))⟩
theorem H.q1c:Has P F.q1c C.q1c:=⟨Tryz.f78,Tryz.func78,by kernel_rfl,by kernel_rfl⟩
noncomputable def C.q2v:MFunc:=⟨12,2,[.tmp 4],
 (s (r [
 ⟨some 2,none,.box T.apiNote (t 0)⟩,
 ⟨some 3,none,.box T.apiNote (t 1)⟩,
 b 4 false] [])
 (s (.draw true [
 e (L 5 24 2),
 a (L 8 24 3),
 h (f 6 F.q1p [(t 5)]),
 a (v 7 (.strOf (t 6))),
 h (f 9 F.q1p [(t 8)]),
 a (v 10 (.strOf (t 9))),
 a (v 11 (.bin .lss T.string (t 7) (t 10))),
 a (m 4 11)] [5,6,7,8,9,10,11])
 .ret))⟩
theorem H.q2v:Has P F.q2v C.q2v:=⟨Tryz.f79,Tryz.func79,by kernel_rfl,by kernel_rfl⟩
noncomputable def C.q4m:MFunc:=⟨12,0,[.tmp 0],
 (s (r [
 v 0 (.mv (.const (.val (.map none))))] [])
 (s (r [
 ⟨some 1,none,.alloc T.q5a [(.val .nilFunc)]⟩,
 ⟨none,none,.store 1 (t 1) (.const (.func (.func F.q3y) [] []))⟩] [])
 (s (r [
 v 3 (.mkFunc (.func F.q3b) [] [(t 1)]),
 v 4 (.build [(.val .nilFunc)] [(0,1,(t 3))]),
 ⟨some 2,none,.alloc T.recordkind [(.val .nilFunc)]⟩,
 y 1 2 4] [3,4])
 (s (r [
 ⟨some 5,none,.mkMap⟩,
 v 6 (.mkFunc (.func F.q3z) [] [(t 1)]),
 v 7 (.build [(.val .nilFunc)] [(0,1,(t 6))]),
 ⟨none,none,.mapSet (false,[.int]) (t 5) (c 1) (t 7)⟩,
 L 8 1 2,
 ⟨none,none,.mapSet (false,[.int]) (t 5) (c 2) (t 8)⟩,
 L 9 1 2,
 ⟨none,none,.mapSet (false,[.int]) (t 5) (c 3) (t 9)⟩,
 v 10 (.build [(.val .nilFunc)] [(0,1,(.const (.func (.func F.q30) [] [])))]),
 ⟨none,none,.mapSet (false,[.int]) (t 5) (c 4) (t 10)⟩,
 m 11 5,
 m 0 11] [5,6,7,8,9,10,11])
 .ret))))⟩
theorem H.q4m:Has P F.q4m C.q4m:=⟨Tryz.f80,Tryz.func80,by kernel_rfl,by kernel_rfl⟩
noncomputable def C.q4n:MFunc:=⟨50,2,[.tmp 4],
 (s (r [
 ⟨some 2,none,.box T.apiEvent (t 0)⟩,
 b 4 false] [])
 (s (r [
 g 9 0 2,
 l 10 9,
 f 11 F.q1m [(t 10),(c 0),(c 1048576)],
 m 12 11,
 w 13 12 (G 2 2),
 w 14 12 (D 13),
 ⟨some 15,some (12,true),.call (.const (.func (.func F.q1m) [] [])) [(t 14),(c 0),(c 7)]⟩,
 v 16 (k 12 15),
 m 17 16,
 w 18 17 (G 3 2),
 w 19 17 (D 18),
 ⟨some 20,some (17,true),.call (.const (.func (.func F.q1m) [] [])) [(t 19),(c 0),(c 4095)]⟩,
 v 21 (k 17 20),
 m 5 21] [9,10,11,12,13,14,15,16,17,18,19,20,21])
 (s (r [
 g 22 7 2,
 l 23 22,
 f 24 F.q1m [(t 23),(c 0),(c 2097151)],
 m 25 24,
 w 26 25 (G 8 2),
 w 27 25 (D 26),
 ⟨some 28,some (25,true),.call (.const (.func (.func F.q1m) [] [])) [(t 27),(c 0),(c 2097151)]⟩,
 v 29 (k 25 28),
 m 6 29] [22,23,24,25,26,27,28,29])
 (s (r [
 m 31 1,
 g 32 1 2,
 l 33 32,
 v 34 (.lookup (false,[.int]) (.agg [(.val .nilFunc)]) true (t 31) (t 33)),
 m 30 34,
 x 35 0 30,
 x 36 1 30,
 ⟨some 7,none,.alloc T.recordkind [(.val .nilFunc)]⟩,
 y 1 7 35,
 m 8 36] [31,32,33,34,30,35,36])
 (s (r [
 m 37 5,
 m 38 37,
 w 39 38 (M 6),
 v 40 (k 38 39),
 m 41 40,
 w 42 41 (M 8),
 v 43 (k 41 42),
 m 44 43,
 w 45 44 (G 0 7),
 w 46 44 (D 45),
 w 47 44 (E 9 2),
 ⟨some 48,some (44,true),.call (t 46) [(t 47)]⟩,
 v 49 (k 44 48),
 m 4 49] [37,38,39,40,41,42,43,44,45,46,47,48,49])
 .ret)))))⟩
theorem H.q4n:Has P F.q4n C.q4n:=⟨Tryz.f81,Tryz.func81,by kernel_rfl,by kernel_rfl⟩
noncomputable def C.q4j:MFunc:=⟨5,0,[.cell 0 8 true],
 (s (r [
 ⟨some 0,none,.alloc T.q48 [(.val .nilFunc),(.val .nilFunc),(.val .nilFunc),(.val .nilFunc),(.val .nilFunc),(.val .nilFunc),(.val .nilFunc),(.val .nilFunc)]⟩] [])
 (s (r [
 v 1 (.build [(.val .nilFunc),(.val .nilFunc)] [(0,1,(.const (.func (.func F.q3g) [] []))),(1,1,(.const (.func (.func F.q42) [] [])))]),
 v 2 (.build [(.val .nilFunc),(.val .nilFunc)] [(0,1,(.const (.func (.func F.q3h) [] []))),(1,1,(.const (.func (.func F.q43) [] [])))]),
 v 3 (.build [(.val .nilFunc),(.val .nilFunc)] [(0,1,(.const (.func (.func F.q3i) [] []))),(1,1,(.const (.func (.func F.q44) [] [])))]),
 v 4 (.build [(.val .nilFunc),(.val .nilFunc),(.val .nilFunc),(.val .nilFunc),(.val .nilFunc),(.val .nilFunc),(.val .nilFunc),(.val .nilFunc)] [(2,2,(t 1)),(4,2,(t 2)),(6,2,(t 3))]),
 y 8 0 4] [1,2,3,4])
 .ret))⟩
theorem H.q4j:Has P F.q4j C.q4j:=⟨Tryz.f82,Tryz.func82,by kernel_rfl,by kernel_rfl⟩
noncomputable def C.q26:MFunc:=⟨32,1,[.tmp 2],
 (s (r [
 ⟨some 1,none,.box T.apiNote (t 0)⟩,
 v 2 (.mv (.const .nil))] [])
 (s (r [
 g 5 10 1,
 L 6 14 5,
 ⟨some 3,none,.alloc T.apiDecision q2⟩,
 y 14 3 6] [5,6])
 (s (.draw true [
 a (g 7 0 1),
 a (l 8 7),
 a (v 9 (.buildSlice T.int 1 [(.int 0)] [(0,1,(t 8))])),
 e (g 10 1 1),
 e (L 11 9 10),
 h (f 12 F.q23 [(t 11)]),
 h (⟨some 13,none,.append T.int 8 1 (t 9) (t 12)⟩),
 a (m 4 13)] [7,8,9,10,11,12,13])
 (s (r [
 m 14 4,
 g 15 0 3,
 l 16 15,
 g 17 1 3,
 l 18 17,
 g 19 2 3,
 l 20 19,
 g 21 3 3,
 l 22 21,
 g 23 4 3,
 l 24 23,
 v 25 (.buildSlice T.int 5 [(.int 0),(.int 0),(.int 0),(.int 0),(.int 0)] [(0,1,(t 16)),(1,1,(t 18)),(2,1,(t 20)),(3,1,(t 22)),(4,1,(t 24))]),
 ⟨some 26,none,.append T.int 8 1 (t 14) (t 25)⟩,
 m 4 26] [14,15,16,17,18,19,20,21,22,23,24,25,26])
 (s (r [
 m 27 4,
 g 28 5 3,
 L 29 9 28,
 f 30 F.q23 [(t 29)],
 ⟨some 31,none,.append T.int 8 1 (t 27) (t 30)⟩,
 m 2 31] [27,28,29,30,31])
 .ret)))))⟩
theorem H.q26:Has P F.q26 C.q26:=⟨Tryz.f83,Tryz.func83,by kernel_rfl,by kernel_rfl⟩
noncomputable def C.q2a:MFunc:=⟨12,1,[.tmp 2,.tmp 3],
 (s (r [
 ⟨some 1,none,.box T.apiValue (t 0)⟩,
 v 2 (.mv (.const .nil)),
 i 3 0] [])
 (s (r [
 L 5 4 1,
 f 6 F.q15 [(t 5)],
 m 4 6] [5,6])
 (s (s (r [
 m 7 4,
 v 8 (.bin .neq T.apiErrno (t 7) (c 0))] [7])
 (d 8
 (s (r [
 m 9 4,
 v 2 (.mv (.const .nil)),
 m 3 9] [9])
 .ret)
 .skip))
 (s (r [
 L 10 4 1,
 f 11 F.q0j [(t 10)],
 m 2 11,
 i 3 0] [10,11])
 .ret))))⟩
theorem H.q2a:Has P F.q2a C.q2a:=⟨Tryz.f84,Tryz.func84,by kernel_rfl,by kernel_rfl⟩
noncomputable def C.q1f:MFunc:=⟨17,2,[],
 (r [
 m 4 1,
 v 5 (.bin .geq T.int (t 4) (c 0)),
 m 6 5,
 w 7 6 (M 1),
 w 8 6 (M 0),
 w 9 6 (.nilCheck (t 8)),
 w 10 6 (G 0 9),
 w 11 6 (G 0 10),
 w 12 6 (D 11),
 w 13 6 (n 12),
 w 14 6 (A 7 13),
 v 15 (k 6 14),
 f 16 F.q1s [(t 15),(c 1)]] [4,5,6,7,8,9,10,11,12,13,14,15,16])⟩
theorem H.q1f:Has P F.q1f C.q1f:=⟨Tryz.f85,Tryz.func85,by kernel_rfl,by kernel_rfl⟩
noncomputable def C.q1s:MFunc:=⟨8,2,[],
 (s (r [
 m 4 0,
 v 5 (N 4)] [4])
 (d 5
 (r [
 m 6 1,
 v 7 (.mkIface T.apiErrno (t 6)),
 ⟨none,none,.panic (t 7)⟩] [6,7])
 .skip))⟩
theorem H.q1s:Has P F.q1s C.q1s:=⟨Tryz.f86,Tryz.func86,by kernel_rfl,by kernel_rfl⟩
noncomputable def C.q1y:MFunc:=⟨31,1,[.tmp 2],
 (s (r [
 ⟨some 1,none,.box T.apiNote (t 0)⟩,
 b 2 false] [])
 (s (s (r [
 g 3 0 1,
 l 4 3] [3])
 (.block 0 (s (r [
 v 6 (.bin .eql T.int (t 4) (c 1)),
 m 5 6] [6])
 (d 5
 (s (r [
 g 7 10 1,
 L 8 14 7,
 v 9 (.build q2 []),
 v 10 (.eqAgg false [.int,.int,.int,.int,.int,.int,.int,.int,.int,.int,.int,.int,.int,.int] (t 8) (t 9)),
 m 11 10,
 w 12 11 (G 1 1),
 w 13 11 (E 9 12),
 w 14 11 (.buildSlice T.apiEvent 1 q3 [(0,9,(t 13))]),
 ⟨some 15,some (11,true),.call (.const (.func (.func F.q34) [] [])) [(t 14)]⟩,
 w 16 11 (.bin .eql T.apiErrno (t 15) (c 0)),
 v 17 (k 11 16),
 m 2 17] [7,8,9,10,11,12,13,14,15,16,17])
 .ret)
 (s (r [
 v 19 (.bin .eql T.int (t 4) (c 2)),
 m 18 19] [19])
 (d 18
 (s (r [
 g 20 1 1,
 L 21 9 20,
 v 22 (.build q3 []),
 v 23 (.eqAgg false [.int,.int,.int,.int,.int,.int,.int,.int,.int] (t 21) (t 22)),
 m 24 23,
 w 25 24 (G 10 1),
 w 26 24 (E 14 25),
 w 27 24 (.buildSlice T.apiDecision 1 q2 [(0,14,(t 26))]),
 ⟨some 28,some (24,true),.call (.const (.func (.func F.q4e) [] [])) [(t 27)]⟩,
 w 29 24 (.bin .eql T.apiErrno (t 28) (c 0)),
 v 30 (k 24 29),
 m 2 30] [20,21,22,23,24,25,26,27,28,29,30])
 .ret)
 .skip))))))
 (s (r [
 b 2 false] [])
 .ret)))⟩
theorem H.q1y:Has P F.q1y C.q1y:=⟨Tryz.f87,Tryz.func87,by kernel_rfl,by kernel_rfl⟩
noncomputable def C.q1u:MFunc:=⟨45,3,[],
 (s (r [
 ⟨some 5,none,.box T.apiNote (t 2)⟩] [])
 (s (r [
 m 9 0,
 v 10 (.nilCheck (t 9)),
 g 11 0 10,
 g 12 0 11,
 l 13 12,
 m 14 1,
 v 15 (I 1 13 14),
 m 6 15] [9,10,11,12,13,14,15])
 (s (.draw true [
 e (m 17 6),
 e (v 18 (.nilCheck (t 17))),
 e (g 19 0 18),
 e (l 20 19),
 e (L 21 24 5),
 h (⟨some 22,none,.call (.const (.func (.func F.q0g) [] [])) [(t 20),(t 21),(.const (.func (.func F.q09) [] []))]⟩),
 a (m 16 22),
 a (x 23 0 16),
 a (x 24 1 16),
 a (m 7 23),
 a (m 8 24)] [17,18,19,20,21,22,16,23,24])
 (s (s (r [
 m 25 8] [])
 (d 25
 .ret
 .skip))
 (s (r [
 m 26 6,
 v 27 (.nilCheck (t 26)),
 g 28 0 27,
 l 29 28,
 v 30 (n 29),
 v 31 (.bin .lss T.int (t 30) (c 4096)),
 f 32 F.q1s [(t 31),(c 2)]] [26,27,28,29,30,31,32])
 (.draw true [
 a (m 33 6),
 e (m 34 6),
 e (v 35 (.nilCheck (t 34))),
 e (g 36 0 35),
 e (l 37 36),
 a (m 39 7),
 a (L 40 24 5),
 a (v 41 (.buildSlice T.apiNote 1 q1 [(0,24,(t 40))])),
 h (f 38 F.q1n [(t 37)]),
 h (f 42 F.q0x [(t 38),(t 39),(t 41)]),
 a (v 43 (.nilCheck (t 33))),
 a (g 44 0 43),
 (.last,y 1 44 42)] [33,34,35,36,37,38,39,40,41,42,43,44]))))))⟩
theorem H.q1u:Has P F.q1u C.q1u:=⟨Tryz.f88,Tryz.func88,by kernel_rfl,by kernel_rfl⟩
noncomputable def C.q2e:MFunc:=⟨28,2,[],
 (s (r [
 ⟨some 2,none,.box T.q49 (t 0)⟩] [])
 (s (r [
 m 7 1] [])
 (.block 0 (.rangeFunc (t 7) [8] (r [
 ⟨some 4,none,.alloc T.apiPacket q4⟩,
 y 3 4 8] [])
 (.block 1 (s (.draw true [
 a (l 10 2),
 a (v 11 (.nilCheck (t 10))),
 a (g 12 0 11),
 a (g 13 1 12),
 a (L 14 2 13),
 a (L 15 3 4),
 a (f 16 F.q4i [(t 14),(t 15)]),
 a (m 9 16),
 a (x 17 0 9),
 a (x 18 1 9),
 h (⟨some 5,none,.alloc T.apiNet [.nil,.nil]⟩),
 (.last,y 2 5 17),
 a (m 6 18)] [10,11,12,13,14,15,16,9,17,18])
 (s (r [
 m 19 6,
 v 20 (.bin .eql T.apiErrno (t 19) (c 0)),
 m 21 6,
 f 22 F.q1s [(t 20),(t 21)]] [19,20,21,22])
 (r [
 l 23 2,
 L 24 2 5,
 v 25 (.nilCheck (t 23)),
 g 26 0 25,
 g 27 1 26,
 y 2 27 24] [23,24,25,26,27]))))))))⟩
theorem H.q2e:Has P F.q2e C.q2e:=⟨Tryz.f89,Tryz.func89,by kernel_rfl,by kernel_rfl⟩
noncomputable def C.q13:MFunc:=⟨32,3,[],
 (s (r [
 l 5 1,
 v 6 (.nilCheck (t 5)),
 g 7 0 6,
 g 8 0 7,
 l 9 8,
 v 10 (n 9),
 i 11 0] [5,6,7,8,9])
 (.block 0 (.loop (s (r [
 v 12 (A 11 10)] [])
 (s (d 12
 .skip
 (.exit 0))
 (s (.block 1 (s (r [
 m 13 11,
 m 4 13] [13])
 (s (.draw true [
 e (m 14 4),
 e (g 15 1 2),
 e (l 16 15),
 e (v 17 (.bin .neq T.int (t 14) (t 16))),
 e (m 18 17),
 a (w 19 18 (M 0)),
 a (w 20 18 (G 1 2)),
 a (w 21 18 (D 20)),
 a (w 22 18 (M 4)),
 e (w 23 18 (G 4 2)),
 e (w 24 18 (E 24 23)),
 h (⟨some 25,some (18,true),.call (.const (.func (.func F.q19) [] [])) [(t 24)]⟩),
 h (⟨some 26,some (18,true),.bytes (t 25)⟩),
 a (w 27 18 (.build q4 [(0,1,(t 21)),(1,1,(t 22)),(2,1,(t 26))])),
 h (⟨some 28,some (18,true),.call (t 19) [(t 27)]⟩),
 a (w 29 18 (N 28)),
 a (v 30 (k 18 29))] [14,15,16,17,18,19,20,21,22,23,24,25,26,27,28,29])
 (d 30
 .ret
 .skip))))
 (r [
 v 31 (p 11 1),
 m 11 31] [31])))))))⟩
theorem H.q13:Has P F.q13 C.q13:=⟨Tryz.f90,Tryz.func90,by kernel_rfl,by kernel_rfl⟩
noncomputable def C.q14:MFunc:=⟨33,3,[],
 (s (.draw false [
 e (l 6 1),
 e (v 7 (.nilCheck (t 6))),
 e (g 8 0 7),
 e (g 9 0 8),
 e (l 10 9),
 e (g 11 1 2),
 e (l 12 11),
 e (v 13 (I 1 10 12)),
 e (g 14 0 13),
 e (l 15 14),
 e (v 16 (n 15)),
 e (i 17 0)] [6,7,8,9,10,11,12,13,14])
 (.block 0 (.loop (s (r [
 v 18 (A 17 16)] [])
 (s (d 18
 .skip
 (.exit 0))
 (s (.block 1 (s (r [
 v 19 (I 24 15 17),
 L 20 24 19,
 ⟨some 5,none,.alloc T.apiNote q1⟩,
 y 24 5 20] [19,20])
 (s (.draw true [
 a (m 21 0),
 a (g 22 1 2),
 a (l 23 22),
 a (g 24 2 2),
 a (l 25 24),
 e (L 26 24 5),
 h (f 27 F.q19 [(t 26)]),
 h (⟨some 28,none,.bytes (t 27)⟩),
 a (v 29 (.build q4 [(0,1,(t 23)),(1,1,(t 25)),(2,1,(t 28))])),
 h (⟨some 30,none,.call (t 21) [(t 29)]⟩),
 a (v 31 (N 30))] [21,22,23,24,25,26,27,28,29,30])
 (d 31
 .ret
 .skip))))
 (r [
 v 32 (p 17 1),
 m 17 32] [32])))))))⟩
theorem H.q14:Has P F.q14 C.q14:=⟨Tryz.f91,Tryz.func91,by kernel_rfl,by kernel_rfl⟩
noncomputable def C.q10:MFunc:=⟨31,2,[.cell 4 3 true,.cell 5 2 true,.tmp 6],
 (s (r [
 ⟨some 2,none,.box T.apiNet (t 0)⟩,
 ⟨some 4,none,.alloc T.apiPacket q4⟩,
 ⟨some 5,none,.alloc T.apiNet [.nil,.nil]⟩,
 i 6 0] [])
 (s (s (r [
 L 8 2 2,
 m 9 1,
 f 10 F.q33 [(t 8),(t 9)],
 m 7 10,
 x 11 0 7,
 x 12 1 7,
 y 3 4 11,
 m 6 12] [8,9,10,7,11,12])
 (s (r [
 m 13 6,
 v 14 (.bin .neq T.apiErrno (t 13) (c 0))] [13])
 (d 14
 (s (.draw true [
 e (L 15 3 4),
 a (L 16 2 5),
 a (m 17 6),
 h (y 3 4 15),
 (.last,y 2 5 16),
 a (m 6 17)] [15,16,17])
 .ret)
 .skip)))
 (s (s (.draw true [
 a (g 18 1 2),
 a (l 19 18),
 e (g 20 0 4),
 e (l 21 20),
 e (g 22 1 4),
 e (l 23 22),
 h (f 24 F.q3j [(t 21),(t 23)]),
 h (f 25 F.q1v [(t 19),(t 24)])] [18,19,20,21,22,23,24])
 (d 25
 (r [
 v 26 (.build q4 []),
 y 3 4 26] [26])
 .skip))
 (s (.draw true [
 a (L 27 3 4),
 e (L 28 2 2),
 e (m 29 1),
 h (f 30 F.q3k [(t 28),(t 29)]),
 (.last,y 3 4 27),
 (.last,y 2 5 30),
 a (i 6 0)] [27,28,29,30])
 .ret))))⟩
theorem H.q10:Has P F.q10 C.q10:=⟨Tryz.f92,Tryz.func92,by kernel_rfl,by kernel_rfl⟩
noncomputable def C.q35:MFunc:=⟨19,2,[.cell 4 2 true,.tmp 5],
 (s (r [
 ⟨some 2,none,.box T.apiNet (t 0)⟩,
 ⟨some 4,none,.alloc T.apiNet [.nil,.nil]⟩,
 i 5 0] [])
 (s (s (r [
 L 7 2 2,
 m 8 1,
 f 9 F.q33 [(t 7),(t 8)],
 m 6 9,
 x 10 0 6,
 x 11 1 6,
 m 5 11] [7,8,9,6,10,11])
 (s (r [
 m 12 5,
 v 13 (.bin .neq T.apiErrno (t 12) (c 0))] [12])
 (d 13
 (s (r [
 L 14 2 4,
 m 15 5,
 y 2 4 14,
 m 5 15] [14,15])
 .ret)
 .skip)))
 (s (r [
 L 16 2 2,
 m 17 1,
 f 18 F.q3k [(t 16),(t 17)],
 y 2 4 18,
 i 5 0] [16,17,18])
 .ret)))⟩
theorem H.q35:Has P F.q35 C.q35:=⟨Tryz.f93,Tryz.func93,by kernel_rfl,by kernel_rfl⟩
noncomputable def C.q29:MFunc:=⟨22,2,[.cell 4 2 true,.tmp 5],
 (s (r [
 ⟨some 2,none,.box T.apiNet (t 0)⟩,
 ⟨some 4,none,.alloc T.apiNet [.nil,.nil]⟩,
 i 5 0] [])
 (s (r [
 L 8 2 2,
 m 9 1,
 f 10 F.q33 [(t 8),(t 9)],
 m 7 10,
 x 11 0 7,
 x 12 1 7,
 ⟨some 6,none,.alloc T.apiPacket q4⟩,
 y 3 6 11,
 m 5 12] [8,9,10,7,11,12])
 (s (s (r [
 m 13 5,
 v 14 (.bin .neq T.apiErrno (t 13) (c 0))] [13])
 (d 14
 (s (r [
 L 15 2 4,
 m 16 5,
 y 2 4 15,
 m 5 16] [15,16])
 .ret)
 .skip))
 (s (r [
 L 17 2 2,
 L 18 3 6,
 f 19 F.q4i [(t 17),(t 18)],
 x 20 0 19,
 x 21 1 19,
 y 2 4 20,
 m 5 21] [17,18,19,20,21])
 .ret))))⟩
theorem H.q29:Has P F.q29 C.q29:=⟨Tryz.f94,Tryz.func94,by kernel_rfl,by kernel_rfl⟩
noncomputable def C.q2n:MFunc:=⟨14,2,[.tmp 4],
 (s (r [
 ⟨some 2,none,.box T.apiRoom (t 0)⟩,
 b 4 false] [])
 (s (r [
 m 5 1,
 v 6 (.bin .geq T.int (t 5) (c 0)),
 m 7 6,
 w 8 7 (M 1),
 w 9 7 (G 0 2),
 w 10 7 (D 9),
 w 11 7 (n 10),
 w 12 7 (A 8 11),
 v 13 (k 7 12),
 m 4 13] [5,6,7,8,9,10,11,12,13])
 .ret))⟩
theorem H.q2n:Has P F.q2n C.q2n:=⟨Tryz.f95,Tryz.func95,by kernel_rfl,by kernel_rfl⟩
noncomputable def C.q20:MFunc:=⟨37,3,[.cell 6 3 true,.tmp 7],
 (s (r [
 ⟨some 3,none,.box T.apiRoom (t 0)⟩,
 ⟨some 5,none,.box T.apiNote (t 2)⟩,
 ⟨some 6,none,.alloc T.apiRoom q6⟩,
 i 7 0] [])
 (s (.draw true [
 e (g 11 0 3),
 e (l 12 11),
 e (m 13 1),
 e (v 14 (I 1 12 13)),
 e (g 15 0 14),
 e (l 16 15),
 e (L 17 24 5),
 h (f 18 F.q3m [(t 16),(t 17)]),
 a (m 10 18),
 a (x 19 0 10),
 a (x 20 1 10),
 a (m 8 19),
 a (m 9 20)] [11,12,13,14,15,16,17,18,10,19,20])
 (s (s (r [
 m 21 9,
 v 22 (.bin .neq T.apiErrno (t 21) (c 0))] [21])
 (d 22
 (s (r [
 v 23 (.build q6 []),
 m 24 9,
 y 3 6 23,
 m 7 24] [23,24])
 .ret)
 .skip))
 (s (r [
 v 25 (.buildSlice T.apiPeer 0 [] []),
 g 26 0 3,
 l 27 26,
 ⟨some 28,none,.append T.apiPeer 24 1 (t 25) (t 27)⟩,
 g 29 0 3,
 y 1 29 28] [25,26,27,28,29])
 (s (r [
 g 30 0 3,
 l 31 30,
 m 32 1,
 m 33 8,
 v 34 (.build [.nil] [(0,1,(t 33))]),
 v 35 (I 1 31 32),
 y 1 35 34] [30,31,32,33,34,35])
 (s (r [
 L 36 3 3,
 y 3 6 36,
 i 7 0] [36])
 .ret))))))⟩
theorem H.q20:Has P F.q20 C.q20:=⟨Tryz.f96,Tryz.func96,by kernel_rfl,by kernel_rfl⟩
noncomputable def C.q2f:MFunc:=⟨30,4,[.cell 8 3 true,.tmp 9],
 (s (r [
 ⟨some 4,none,.box T.apiRoom (t 0)⟩,
 ⟨some 7,none,.box T.apiNote (t 3)⟩,
 ⟨some 8,none,.alloc T.apiRoom q6⟩,
 i 9 0] [])
 (s (.draw true [
 a (g 13 1 4),
 a (L 14 2 13),
 a (m 15 1),
 a (m 16 2),
 a (L 17 24 7),
 a (f 18 F.q1p [(t 17)]),
 a (v 19 (.build q4 [(0,1,(t 15)),(1,1,(t 16)),(2,1,(t 18))])),
 a (f 20 F.q28 [(t 14),(t 19)]),
 a (m 12 20),
 a (x 21 0 12),
 a (x 22 1 12),
 h (⟨some 10,none,.alloc T.apiNet [.nil,.nil]⟩),
 (.last,y 2 10 21),
 a (m 11 22)] [13,14,15,16,17,18,19,20,12,21,22])
 (s (s (r [
 m 23 11,
 v 24 (.bin .neq T.apiErrno (t 23) (c 0))] [23])
 (d 24
 (s (r [
 v 25 (.build q6 []),
 m 26 11,
 y 3 8 25,
 m 9 26] [25,26])
 .ret)
 .skip))
 (s (r [
 L 27 2 10,
 g 28 1 4,
 y 2 28 27] [27,28])
 (s (r [
 L 29 3 4,
 y 3 8 29,
 i 9 0] [29])
 .ret)))))⟩
theorem H.q2f:Has P F.q2f C.q2f:=⟨Tryz.f97,Tryz.func97,by kernel_rfl,by kernel_rfl⟩
noncomputable def C.q1q:MFunc:=⟨33,2,[.cell 4 3 true,.cell 5 2 true,.tmp 6],
 (s (r [
 ⟨some 2,none,.box T.apiNet (t 0)⟩,
 ⟨some 4,none,.alloc T.apiPacket q4⟩,
 ⟨some 5,none,.alloc T.apiNet [.nil,.nil]⟩,
 i 6 0] [])
 (s (r [
 L 9 2 2,
 m 10 1,
 f 11 F.q1x [(t 9),(t 10)],
 m 7 11] [9,10,11])
 (s (s (r [
 m 12 7,
 v 13 (.bin .neq T.apiErrno (t 12) (c 0))] [12])
 (d 13
 (s (r [
 v 14 (.build q4 []),
 v 15 (.build [.nil,.nil] []),
 m 16 7,
 y 3 4 14,
 y 2 5 15,
 m 6 16] [14,15,16])
 .ret)
 .skip))
 (s (r [
 g 17 0 2,
 l 18 17,
 m 19 1,
 v 20 (I 3 18 19),
 L 21 3 20,
 ⟨some 8,none,.alloc T.apiPacket q4⟩,
 y 3 8 21] [17,18,19,20,21])
 (s (s (r [
 L 22 2 2,
 g 23 0 8,
 l 24 23,
 g 25 1 8,
 l 26 25,
 f 27 F.q3n [(t 22),(t 24),(t 26)]] [22,23,24,25,26])
 (d 27
 (r [
 v 28 (.build q4 []),
 y 3 8 28] [28])
 .skip))
 (s (.draw true [
 a (L 29 3 8),
 e (L 30 2 2),
 e (m 31 1),
 h (f 32 F.q2q [(t 30),(t 31)]),
 (.last,y 3 4 29),
 (.last,y 2 5 32),
 a (i 6 0)] [29,30,31,32])
 .ret))))))⟩
theorem H.q1q:Has P F.q1q C.q1q:=⟨Tryz.f98,Tryz.func98,by kernel_rfl,by kernel_rfl⟩
noncomputable def C.q1x:MFunc:=⟨17,2,[.tmp 4],
 (s (r [
 ⟨some 2,none,.box T.apiNet (t 0)⟩,
 i 4 0] [])
 (s (s (r [
 L 5 2 2,
 f 6 F.q2m [(t 5)],
 v 7 (.bin .neq T.apiErrno (t 6) (c 0))] [5,6])
 (d 7
 (s (r [
 i 4 60] [])
 .ret)
 .skip))
 (s (s (r [
 m 8 1,
 v 9 (.bin .lss T.int (t 8) (c 0)),
 m 10 9,
 z 11 10 (M 1),
 z 12 10 (G 0 2),
 z 13 10 (D 12),
 z 14 10 (n 13),
 z 15 10 (.bin .geq T.int (t 11) (t 14)),
 v 16 (j 10 15)] [8,9,10,11,12,13,14,15])
 (d 16
 (s (r [
 i 4 1] [])
 .ret)
 .skip))
 (s (r [
 i 4 0] [])
 .ret))))⟩
theorem H.q1x:Has P F.q1x C.q1x:=⟨Tryz.f99,Tryz.func99,by kernel_rfl,by kernel_rfl⟩
noncomputable def C.q2q:MFunc:=⟨19,2,[.cell 4 2 true],
 (s (r [
 ⟨some 2,none,.box T.apiNet (t 0)⟩,
 ⟨some 4,none,.alloc T.apiNet [.nil,.nil]⟩] [])
 (s (.draw true [
 e (v 5 (.buildSlice T.apiPacket 0 [] [])),
 e (g 6 0 2),
 e (l 7 6),
 e (m 8 1),
 e (v 9 (.slice 3 (t 7) none (some (t 8)) none)),
 a (g 11 0 2),
 a (l 12 11),
 a (m 13 1),
 a (v 14 (p 13 1)),
 a (v 15 (.slice 3 (t 12) (some (t 14)) none none)),
 h (⟨some 10,none,.append T.apiPacket 40 3 (t 5) (t 9)⟩),
 h (⟨some 16,none,.append T.apiPacket 40 3 (t 10) (t 15)⟩),
 a (g 17 0 2),
 (.last,y 1 17 16)] [5,6,7,8,9,10,11,12,13,14,15,16,17])
 (s (r [
 L 18 2 2,
 y 2 4 18] [18])
 .ret)))⟩
theorem H.q2q:Has P F.q2q C.q2q:=⟨Tryz.f100,Tryz.func100,by kernel_rfl,by kernel_rfl⟩
noncomputable def C.q28:MFunc:=⟨29,2,[.cell 4 2 true,.tmp 5],
 (s (r [
 ⟨some 2,none,.box T.apiNet (t 0)⟩,
 ⟨some 3,none,.box T.apiPacket (t 1)⟩,
 ⟨some 4,none,.alloc T.apiNet [.nil,.nil]⟩,
 i 5 0] [])
 (s (s (r [
 L 6 2 2,
 f 7 F.q2m [(t 6)],
 v 8 (.bin .neq T.apiErrno (t 7) (c 0)),
 m 9 8,
 z 10 9 (E 3 3),
 ⟨some 11,some (9,false),.call (.const (.func (.func F.q2x) [] [])) [(t 10)]⟩,
 z 12 9 (N 11),
 v 13 (j 9 12)] [6,7,8,9,10,11,12])
 (d 13
 (s (r [
 v 14 (.build [.nil,.nil] []),
 y 2 4 14,
 i 5 60] [14])
 .ret)
 .skip))
 (s (s (r [
 g 15 0 2,
 l 16 15,
 v 17 (n 16),
 v 18 (.bin .eql T.int (t 17) (c 4096))] [15,16,17])
 (d 18
 (s (r [
 v 19 (.build [.nil,.nil] []),
 y 2 4 19,
 i 5 2] [19])
 .ret)
 .skip))
 (s (.draw true [
 e (v 20 (.buildSlice T.apiPacket 0 [] [])),
 e (g 21 0 2),
 e (l 22 21),
 a (L 24 3 3),
 a (v 25 (.buildSlice T.apiPacket 1 q4 [(0,3,(t 24))])),
 h (⟨some 23,none,.append T.apiPacket 40 3 (t 20) (t 22)⟩),
 h (⟨some 26,none,.append T.apiPacket 40 3 (t 23) (t 25)⟩),
 a (g 27 0 2),
 (.last,y 1 27 26)] [20,21,22,23,24,25,26,27])
 (s (r [
 L 28 2 2,
 y 2 4 28,
 i 5 0] [28])
 .ret)))))⟩
theorem H.q28:Has P F.q28 C.q28:=⟨Tryz.f101,Tryz.func101,by kernel_rfl,by kernel_rfl⟩
noncomputable def C.q0w:MFunc:=⟨9,2,[.tmp 4],
 (s (r [
 b 4 false] [])
 (s (r [
 m 5 0,
 m 6 1,
 f 7 F.q01 [(t 5),(t 6)],
 v 8 (.bin .geq T.int (t 7) (c 0)),
 m 4 8] [5,6,7,8])
 .ret))⟩
theorem H.q0w:Has P F.q0w C.q0w:=⟨Tryz.f102,Tryz.func102,by kernel_rfl,by kernel_rfl⟩
noncomputable def C.q2s:MFunc:=⟨6,1,[.tmp 2],
 (s (r [
 ⟨some 1,none,.box T.apiPacket (t 0)⟩,
 b 2 false] [])
 (s (r [
 L 3 3 1,
 f 4 F.q31 [(t 3)],
 v 5 (N 4),
 m 2 5] [3,4,5])
 .ret))⟩
theorem H.q2s:Has P F.q2s C.q2s:=⟨Tryz.f103,Tryz.func103,by kernel_rfl,by kernel_rfl⟩
noncomputable def C.q31:MFunc:=⟨15,1,[.tmp 2],
 (s (r [
 ⟨some 1,none,.box T.apiPacket (t 0)⟩,
 b 2 false] [])
 (s (r [
 g 3 0 1,
 l 4 3,
 g 5 1 1,
 l 6 5,
 f 7 F.q3j [(t 4),(t 6)],
 f 8 F.q2w [(t 7)],
 m 9 8,
 w 10 9 (G 2 1),
 w 11 9 (D 10),
 w 12 9 (n 11),
 w 13 9 (.bin .leq T.int (t 12) (c 1048576)),
 v 14 (k 9 13),
 m 2 14] [3,4,5,6,7,8,9,10,11,12,13,14])
 .ret))⟩
theorem H.q31:Has P F.q31 C.q31:=⟨Tryz.f104,Tryz.func104,by kernel_rfl,by kernel_rfl⟩
noncomputable def C.q2w:MFunc:=⟨18,1,[.tmp 2],
 (s (r [
 ⟨some 1,none,.box T.networklink (t 0)⟩,
 b 2 false] [])
 (s (r [
 v 3 (.indexArr 2 1 (t 1) (c 0)),
 l 4 3,
 v 5 (.bin .geq T.int (t 4) (c 0)),
 m 6 5,
 w 7 6 (.indexArr 2 1 (t 1) (c 0)),
 w 8 6 (D 7),
 w 9 6 (.indexArr 2 1 (t 1) (c 1)),
 w 10 6 (D 9),
 w 11 6 (A 8 10),
 v 12 (k 6 11),
 m 13 12,
 w 14 13 (.indexArr 2 1 (t 1) (c 1)),
 w 15 13 (D 14),
 w 16 13 (.bin .lss T.int (t 15) (c 24)),
 v 17 (k 13 16),
 m 2 17] [3,4,5,6,7,8,9,10,11,12,13,14,15,16,17])
 .ret))⟩
theorem H.q2w:Has P F.q2w C.q2w:=⟨Tryz.f105,Tryz.func105,by kernel_rfl,by kernel_rfl⟩
noncomputable def C.q17:MFunc:=⟨36,2,[.tmp 4],
 (s (r [
 i 4 0] [])
 (s (s (r [
 m 9 0,
 v 10 (n 9),
 i 11 0] [])
 (.block 0 (.loop (s (r [
 v 12 (A 11 10)] [])
 (s (d 12
 .skip
 (.exit 0))
 (s (.block 1 (s (r [
 m 13 11,
 v 14 (I 1 9 11),
 l 15 14,
 m 5 13,
 m 6 15] [13,14,15])
 (s (s (r [
 m 16 5,
 m 17 1,
 v 18 (n 17),
 v 19 (.bin .geq T.int (t 16) (t 18))] [16,17,18])
 (d 19
 (s (r [
 i 4 1] [])
 .ret)
 .skip))
 (s (r [
 m 20 1,
 m 21 5,
 v 22 (I 1 20 21),
 l 23 22,
 m 7 23] [20,21,22,23])
 (s (r [
 m 24 6,
 m 25 7,
 f 26 F.q2y [(t 24),(t 25)],
 m 8 26] [24,25,26])
 (s (r [
 m 27 8,
 v 28 (.bin .neq T.int (t 27) (c 0))] [27])
 (d 28
 (s (r [
 m 29 8,
 m 4 29] [29])
 .ret)
 .skip)))))))
 (r [
 v 30 (p 11 1),
 m 11 30] [30])))))))
 (s (s (r [
 m 31 0,
 v 32 (n 31),
 m 33 1,
 v 34 (n 33),
 v 35 (A 32 34)] [31,32,33,34])
 (d 35
 (s (r [
 v 4 (.mv (.const (.int (-1))))] [])
 .ret)
 .skip))
 (s (r [
 i 4 0] [])
 .ret))))⟩
theorem H.q17:Has P F.q17 C.q17:=⟨Tryz.f106,Tryz.func106,by kernel_rfl,by kernel_rfl⟩
noncomputable def C.q4o:MDFunc:=⟨20,1,[2,3],[.cell 2 4 true,.cell 3 1 false],
 (.pre [] (r [
 ⟨some 2,none,.alloc T.apiValue [(.int 0),(.int 0),(.val (.string ⟨#[]⟩)),.nil]⟩,
 ⟨some 3,none,.alloc T.apiErrno [(.int 0)]⟩] [])
 (.pushR [
 v 5 (.mkFunc (.func F.q2z) [] [(t 2),(t 3)])] (t 5) []
 (.pre [] (r [
 m 6 0,
 v 7 (.build [.nil] [(0,1,(t 6))]),
 ⟨some 8,none,.box T.q5b (t 7)⟩,
 m 4 8] [6,7,8])
 (.pre [] (r [
 m 9 4,
 f 10 F.q06 [(t 9),(c 0)],
 y 4 2 10] [9,10])
 (.pre [] (r [
 m 11 4,
 m 12 4,
 v 13 (.nilCheck (t 12)),
 g 14 0 13,
 l 15 14,
 v 16 (n 15),
 v 17 (.bin .eql T.int (t 16) (c 0)),
 f 18 F.q04 [(t 11),(t 17)]] [11,12,13,14,15,16,17,18])
 (.pre [] (r [
 L 19 4 2,
 y 4 2 19,
 ⟨none,none,.store 1 (t 3) (c 0)⟩] [19])
 (.pre [] .ret
 .done)))))))⟩
theorem H.q4o:HasD P F.q4o C.q4o:=⟨Tryz.f107,Tryz.func107,by kernel_rfl,by kernel_rfl⟩
noncomputable def C.q3v:MFunc:=⟨42,1,[.tmp 2],
 (s (r [
 v 2 (.mv (.const .nil))] [])
 (s (.draw2 [
 a (m 6 0),
 a (v 7 (.nilCheck (t 6))),
 a (g 8 10 7),
 a (m 9 0),
 a (v 10 (.nilCheck (t 9))),
 a (g 11 1 10),
 a (m 13 0),
 a (v 14 (.nilCheck (t 13))),
 a (g 15 10 14),
 a (g 16 5 15),
 a (f 12 F.q4f [(t 11)]),
 a (f 17 F.q4f [(t 16)])] [
 h (⟨some 4,none,.alloc T.t9int [(.val (.pointer none)),(.val (.pointer none)),(.val (.pointer none)),(.val (.pointer none)),(.val (.pointer none)),(.val (.pointer none)),(.val (.pointer none)),(.val (.pointer none)),(.val (.pointer none))]⟩),
 h (⟨some 5,none,.alloc T.t9int [(.val (.pointer none)),(.val (.pointer none)),(.val (.pointer none)),(.val (.pointer none)),(.val (.pointer none)),(.val (.pointer none)),(.val (.pointer none)),(.val (.pointer none)),(.val (.pointer none))]⟩),
 a (m 3 8),
 (.last,y 9 4 12),
 (.last,y 9 5 17)] [
 h (⟨some 5,none,.alloc T.t9int [(.val (.pointer none)),(.val (.pointer none)),(.val (.pointer none)),(.val (.pointer none)),(.val (.pointer none)),(.val (.pointer none)),(.val (.pointer none)),(.val (.pointer none)),(.val (.pointer none))]⟩),
 h (⟨some 4,none,.alloc T.t9int [(.val (.pointer none)),(.val (.pointer none)),(.val (.pointer none)),(.val (.pointer none)),(.val (.pointer none)),(.val (.pointer none)),(.val (.pointer none)),(.val (.pointer none)),(.val (.pointer none))]⟩),
 a (m 3 8),
 (.last,y 9 4 12),
 (.last,y 9 5 17)] [6,7,8,9,10,11,12,13,14,15,16,17])
 (s (.draw true [
 e (m 18 0),
 e (v 19 (.nilCheck (t 18))),
 e (g 20 0 19),
 e (v 21 (.buildSlice T.int_2 1 [(.val (.pointer none))] [(0,1,(t 20))])),
 e (v 22 (.sliceArr 9 1 (t 4) none none none)),
 e (m 23 3),
 e (v 24 (.nilCheck (t 23))),
 e (g 25 0 24),
 e (m 26 3),
 e (v 27 (.nilCheck (t 26))),
 e (g 28 1 27),
 e (m 29 3),
 e (v 30 (.nilCheck (t 29))),
 e (g 31 2 30),
 e (m 32 3),
 e (v 33 (.nilCheck (t 32))),
 e (g 34 3 33),
 e (m 35 3),
 e (v 36 (.nilCheck (t 35))),
 e (g 37 4 36),
 e (v 38 (.buildSlice T.int_2 5 [(.val (.pointer none)),(.val (.pointer none)),(.val (.pointer none)),(.val (.pointer none)),(.val (.pointer none))] [(0,1,(t 25)),(1,1,(t 28)),(2,1,(t 31)),(3,1,(t 34)),(4,1,(t 37))])),
 e (v 39 (.sliceArr 9 1 (t 5) none none none)),
 e (v 40 (.buildSlice T.Lint_2 4 [.nil,.nil,.nil,.nil] [(0,1,(t 21)),(1,1,(t 22)),(2,1,(t 38)),(3,1,(t 39))])),
 h (f 41 F.q1g [(t 40)]),
 a (m 2 41)] [18,19,20,21,22,23,24,25,26,27,28,29,30,31,32,33,34,35,36,37,38,39,40,41])
 .ret)))⟩
theorem H.q3v:Has P F.q3v C.q3v:=⟨Tryz.f108,Tryz.func108,by kernel_rfl,by kernel_rfl⟩
noncomputable def C.q2x:MFunc:=⟨24,1,[.tmp 2],
 (s (r [
 ⟨some 1,none,.box T.apiPacket (t 0)⟩,
 b 2 false] [])
 (s (r [
 g 3 0 1,
 l 4 3,
 f 5 F.q2g [(t 4)],
 m 6 5,
 w 7 6 (G 1 1),
 w 8 6 (D 7),
 ⟨some 9,some (6,true),.call (.const (.func (.func F.q2g) [] [])) [(t 8)]⟩,
 v 10 (k 6 9),
 m 11 10,
 w 12 11 (G 0 1),
 w 13 11 (D 12),
 w 14 11 (G 1 1),
 w 15 11 (D 14),
 w 16 11 (.bin .neq T.int (t 13) (t 15)),
 v 17 (k 11 16),
 m 18 17,
 w 19 18 (G 2 1),
 w 20 18 (D 19),
 w 21 18 (n 20),
 w 22 18 (.bin .leq T.int (t 21) (c 1048576)),
 v 23 (k 18 22),
 m 2 23] [3,4,5,6,7,8,9,10,11,12,13,14,15,16,17,18,19,20,21,22,23])
 .ret))⟩
theorem H.q2x:Has P F.q2x C.q2x:=⟨Tryz.f109,Tryz.func109,by kernel_rfl,by kernel_rfl⟩
noncomputable def C.q2g:MFunc:=⟨9,1,[.tmp 2],
 (s (r [
 b 2 false] [])
 (s (r [
 m 3 0,
 v 4 (.bin .geq T.int (t 3) (c 0)),
 m 5 4,
 w 6 5 (M 0),
 w 7 5 (.bin .lss T.int (t 6) (c 24)),
 v 8 (k 5 7),
 m 2 8] [3,4,5,6,7,8])
 .ret))⟩
theorem H.q2g:Has P F.q2g C.q2g:=⟨Tryz.f110,Tryz.func110,by kernel_rfl,by kernel_rfl⟩
noncomputable def C.q3a:MFunc:=⟨39,1,[.cell 2 4 true,.tmp 3],
 (s (r [
 ⟨some 2,none,.alloc T.apiValue [(.int 0),(.int 0),(.val (.string ⟨#[]⟩)),.nil]⟩,
 i 3 0] [])
 (s (r [
 m 6 0,
 v 7 (.build [.nil,(.int 0),(.bool false)] [(0,1,(t 6))]),
 ⟨some 8,none,.box T.q5c (t 7)⟩,
 m 4 8] [6,7,8])
 (s (r [
 m 9 4,
 f 10 F.q0r [(t 9),(c 0)],
 ⟨some 5,none,.alloc T.apiValue [(.int 0),(.int 0),(.val (.string ⟨#[]⟩)),.nil]⟩,
 y 4 5 10] [9,10])
 (s (s (.draw true [
 e (m 11 4),
 e (v 12 (.nilCheck (t 11))),
 e (g 13 2 12),
 e (l 14 13),
 e (m 15 14),
 e (z 16 15 (M 4)),
 e (z 17 15 (.nilCheck (t 16))),
 e (z 18 15 (G 1 17)),
 e (z 19 15 (D 18)),
 e (z 20 15 (M 0)),
 e (z 21 15 (n 20)),
 e (z 22 15 (.bin .neq T.int (t 19) (t 21))),
 e (v 23 (j 15 22)),
 e (m 24 23),
 e (z 25 24 (E 4 5)),
 h (⟨some 26,some (24,false),.call (.const (.func (.func F.q15) [] [])) [(t 25)]⟩),
 a (z 27 24 (.bin .neq T.apiErrno (t 26) (c 0))),
 a (v 28 (j 24 27)),
 a (m 29 28),
 a (z 30 29 (E 4 5)),
 a (z 33 29 (M 0)),
 a (z 34 29 (.strOf (t 33))),
 h (⟨some 31,some (29,false),.call (.const (.func (.func F.q0j) [] [])) [(t 30)]⟩),
 a (z 32 29 (.strOf (t 31))),
 a (z 35 29 (.bin .neq T.string (t 32) (t 34))),
 a (v 36 (j 29 35))] [11,12,13,14,15,16,17,18,19,20,21,22,23,24,25,26,27,28,29,30,31,32,33,34,35])
 (d 36
 (s (r [
 ⟨some 37,none,.val (.build [(.int 0),(.int 0),(.val (.string ⟨#[]⟩)),.nil] [])⟩,
 y 4 2 37,
 i 3 10] [37])
 .ret)
 .skip))
 (s (r [
 L 38 4 5,
 y 4 2 38,
 i 3 0] [38])
 .ret)))))⟩
theorem H.q3a:Has P F.q3a C.q3a:=⟨Tryz.f111,Tryz.func111,by kernel_rfl,by kernel_rfl⟩
noncomputable def C.q3w:MFunc:=⟨31,1,[.cell 2 9 true],
 (s (r [
 ⟨some 2,none,.alloc T.apiEvent q3⟩] [])
 (s (.draw false [
 e (m 3 0),
 e (v 4 (.indexAddr 1 (t 3) (c 0))),
 e (l 5 4),
 e (m 6 0),
 e (v 7 (.indexAddr 1 (t 6) (c 1))),
 e (l 8 7),
 e (m 9 0),
 e (v 10 (.indexAddr 1 (t 9) (c 2))),
 e (l 11 10),
 e (m 12 0),
 e (v 13 (.indexAddr 1 (t 12) (c 3))),
 e (l 14 13),
 e (m 15 0),
 e (v 16 (.indexAddr 1 (t 15) (c 4))),
 e (l 17 16),
 e (m 18 0),
 e (v 19 (.indexAddr 1 (t 18) (c 5))),
 e (l 20 19),
 e (m 21 0),
 e (v 22 (.indexAddr 1 (t 21) (c 6))),
 e (l 23 22),
 e (m 24 0),
 e (v 25 (.indexAddr 1 (t 24) (c 7))),
 e (l 26 25),
 e (m 27 0),
 e (v 28 (.indexAddr 1 (t 27) (c 8))),
 e (l 29 28),
 e (v 30 (.build q3 [(0,1,(t 5)),(1,1,(t 8)),(2,1,(t 11)),(3,1,(t 14)),(4,1,(t 17)),(5,1,(t 20)),(6,1,(t 23)),(7,1,(t 26)),(8,1,(t 29))])),
 (.last,y 9 2 30)] [3,4,5,6,7,8,9,10,11,12,13,14,15,16,17,18,19,20,21,22,23,24,25,26,27,28,29,30])
 .ret))⟩
theorem H.q3w:Has P F.q3w C.q3w:=⟨Tryz.f112,Tryz.func112,by kernel_rfl,by kernel_rfl⟩
noncomputable def C.q2l:MFunc:=⟨26,2,[.tmp 4],
 (s (r [
 ⟨some 2,none,.box T.apiPacket (t 0)⟩,
 ⟨some 3,none,.box T.apiPacket (t 1)⟩,
 b 4 false] [])
 (s (r [
 g 5 0 2,
 l 6 5,
 g 7 0 3,
 l 8 7,
 v 9 (B 6 8),
 m 10 9,
 w 11 10 (G 1 2),
 w 12 10 (D 11),
 w 13 10 (G 1 3),
 w 14 10 (D 13),
 w 15 10 (B 12 14),
 v 16 (k 10 15),
 m 17 16,
 w 18 17 (G 2 2),
 w 19 17 (D 18),
 w 20 17 (.strOf (t 19)),
 w 21 17 (G 2 3),
 w 22 17 (D 21),
 w 23 17 (.strOf (t 22)),
 w 24 17 (.bin .eql T.string (t 20) (t 23)),
 v 25 (k 17 24),
 m 4 25] [5,6,7,8,9,10,11,12,13,14,15,16,17,18,19,20,21,22,23,24,25])
 .ret))⟩
theorem H.q2l:Has P F.q2l C.q2l:=⟨Tryz.f113,Tryz.func113,by kernel_rfl,by kernel_rfl⟩
noncomputable def C.q0y:MFunc:=⟨63,3,[],
 (s (r [
 i 6 20] [])
 (s (r [
 m 10 6,
 i 7 0,
 m 8 10] [10])
 (s (.block 0 (.loop (s (s (r [
 m 11 8,
 m 12 1,
 v 13 (.bin .leq T.int (t 11) (t 12))] [11,12])
 (d 13
 .skip
 (.exit 0)))
 (.block 1 (s (r [
 m 14 0,
 m 15 7,
 m 16 8,
 m 17 2,
 f 18 F.q0k [(t 14),(t 15),(t 16),(t 17)]] [14,15,16,17,18])
 (s (r [
 m 19 8,
 m 7 19] [19])
 (r [
 m 20 8,
 m 21 6,
 v 22 (.bin .add T.int (t 20) (t 21)),
 m 8 22] [20,21,22])))))))
 (s (r [
 m 23 0,
 m 24 7,
 m 25 1,
 m 26 2,
 f 27 F.q0k [(t 23),(t 24),(t 25),(t 26)]] [23,24,25,26,27])
 (.block 2 (.loop (s (s (r [
 m 28 6,
 m 29 1,
 v 30 (A 28 29)] [28,29])
 (d 30
 .skip
 (.exit 2)))
 (.block 3 (s (r [
 m 31 6,
 v 32 (.bin .mul T.int (c 2) (t 31)),
 i 7 0,
 m 8 32] [31,32])
 (s (.block 4 (.loop (s (s (r [
 m 33 8,
 m 34 1,
 v 35 (.bin .leq T.int (t 33) (t 34))] [33,34])
 (d 35
 .skip
 (.exit 4)))
 (.block 5 (s (r [
 m 36 0,
 m 37 7,
 m 38 7,
 m 39 6,
 v 40 (.bin .add T.int (t 38) (t 39)),
 m 41 8,
 m 42 2,
 f 43 F.q0c [(t 36),(t 37),(t 40),(t 41),(t 42)]] [36,37,38,39,40,41,42,43])
 (s (r [
 m 44 8,
 m 7 44] [44])
 (r [
 m 45 8,
 m 46 6,
 v 47 (.bin .mul T.int (c 2) (t 46)),
 v 48 (.bin .add T.int (t 45) (t 47)),
 m 8 48] [45,46,47,48])))))))
 (s (s (r [
 m 49 7,
 m 50 6,
 v 51 (.bin .add T.int (t 49) (t 50)),
 m 9 51] [49,50,51])
 (s (r [
 m 52 9,
 m 53 1,
 v 54 (A 52 53)] [52,53])
 (d 54
 (r [
 m 55 0,
 m 56 7,
 m 57 9,
 m 58 1,
 m 59 2,
 f 60 F.q0c [(t 55),(t 56),(t 57),(t 58),(t 59)]] [55,56,57,58,59,60])
 .skip)))
 (r [
 m 61 6,
 v 62 (.bin .mul T.int (t 61) (c 2)),
 m 6 62] [61,62]))))))))))))⟩
theorem H.q0y:Has P F.q0y C.q0y:=⟨Tryz.f115,Tryz.func115,by kernel_rfl,by kernel_rfl⟩
noncomputable def C.q3x:MFunc:=⟨6,1,[.tmp 2],
 (s (r [
 b 2 false] [])
 (s (r [
 m 3 0,
 m 4 0,
 v 5 (.bin .neq T.int (t 3) (t 4)),
 m 2 5] [3,4,5])
 .ret))⟩
theorem H.q3x:Has P F.q3x C.q3x:=⟨Tryz.f116,Tryz.func116,by kernel_rfl,by kernel_rfl⟩
noncomputable def C.q0t:MFunc:=⟨63,3,[],
 (s (r [
 i 6 20] [])
 (s (r [
 m 10 6,
 i 7 0,
 m 8 10] [10])
 (s (.block 0 (.loop (s (s (r [
 m 11 8,
 m 12 1,
 v 13 (.bin .leq T.int (t 11) (t 12))] [11,12])
 (d 13
 .skip
 (.exit 0)))
 (.block 1 (s (r [
 m 14 0,
 m 15 7,
 m 16 8,
 m 17 2,
 f 18 F.q0f [(t 14),(t 15),(t 16),(t 17)]] [14,15,16,17,18])
 (s (r [
 m 19 8,
 m 7 19] [19])
 (r [
 m 20 8,
 m 21 6,
 v 22 (.bin .add T.int (t 20) (t 21)),
 m 8 22] [20,21,22])))))))
 (s (r [
 m 23 0,
 m 24 7,
 m 25 1,
 m 26 2,
 f 27 F.q0f [(t 23),(t 24),(t 25),(t 26)]] [23,24,25,26,27])
 (.block 2 (.loop (s (s (r [
 m 28 6,
 m 29 1,
 v 30 (A 28 29)] [28,29])
 (d 30
 .skip
 (.exit 2)))
 (.block 3 (s (r [
 m 31 6,
 v 32 (.bin .mul T.int (c 2) (t 31)),
 i 7 0,
 m 8 32] [31,32])
 (s (.block 4 (.loop (s (s (r [
 m 33 8,
 m 34 1,
 v 35 (.bin .leq T.int (t 33) (t 34))] [33,34])
 (d 35
 .skip
 (.exit 4)))
 (.block 5 (s (r [
 m 36 0,
 m 37 7,
 m 38 7,
 m 39 6,
 v 40 (.bin .add T.int (t 38) (t 39)),
 m 41 8,
 m 42 2,
 f 43 F.q0a [(t 36),(t 37),(t 40),(t 41),(t 42)]] [36,37,38,39,40,41,42,43])
 (s (r [
 m 44 8,
 m 7 44] [44])
 (r [
 m 45 8,
 m 46 6,
 v 47 (.bin .mul T.int (c 2) (t 46)),
 v 48 (.bin .add T.int (t 45) (t 47)),
 m 8 48] [45,46,47,48])))))))
 (s (s (r [
 m 49 7,
 m 50 6,
 v 51 (.bin .add T.int (t 49) (t 50)),
 m 9 51] [49,50,51])
 (s (r [
 m 52 9,
 m 53 1,
 v 54 (A 52 53)] [52,53])
 (d 54
 (r [
 m 55 0,
 m 56 7,
 m 57 9,
 m 58 1,
 m 59 2,
 f 60 F.q0a [(t 55),(t 56),(t 57),(t 58),(t 59)]] [55,56,57,58,59,60])
 .skip)))
 (r [
 m 61 6,
 v 62 (.bin .mul T.int (t 61) (c 2)),
 m 6 62] [61,62]))))))))))))⟩
theorem H.q0t:Has P F.q0t C.q0t:=⟨Tryz.f117,Tryz.func117,by kernel_rfl,by kernel_rfl⟩
noncomputable def C.q36:MFunc:=⟨19,1,[.tmp 2,.tmp 3],
 (s (r [
 ⟨some 1,none,.box T.apiValue (t 0)⟩,
 v 2 (.mv (.const .nil)),
 i 3 0] [])
 (s (s (r [
 L 5 4 1,
 f 6 F.q4s [(t 5)],
 m 4 6] [5,6])
 (s (r [
 m 7 4,
 v 8 (.bin .neq T.apiErrno (t 7) (c 0))] [7])
 (d 8
 (s (r [
 m 9 4,
 v 2 (.mv (.const .nil)),
 m 3 9] [9])
 .ret)
 .skip)))
 (s (.draw true [
 a (g 11 0 1),
 a (l 12 11),
 a (L 17 4 1),
 h (f 10 F.q4b []),
 a (v 13 (.nilCheck (t 10))),
 a (v 14 (.indexArr 4 1 (t 13) (t 12))),
 a (g 15 0 14),
 a (l 16 15),
 h (⟨some 18,none,.call (t 16) [(.const .nil),(t 17)]⟩),
 a (m 2 18),
 a (i 3 0)] [10,11,12,13,14,15,16,17,18])
 .ret)))⟩
theorem H.q36:Has P F.q36 C.q36:=⟨Tryz.f118,Tryz.func118,by kernel_rfl,by kernel_rfl⟩
noncomputable def C.q0z:MFunc:=⟨148,5,[],
 (s (r [
 b 10 true] [])
 (s (r [
 b 11 true] [])
 (.block 0 (.loop (.block 1 (s (r [
 m 21 2,
 m 22 1,
 v 23 (.bin .sub T.int (t 21) (t 22)),
 m 12 23] [21,22,23])
 (s (s (r [
 m 24 12,
 v 25 (.bin .leq T.int (t 24) (c 12))] [24])
 (d 25
 (s (r [
 m 26 0,
 m 27 1,
 m 28 2,
 m 29 4,
 f 30 F.q05 [(t 26),(t 27),(t 28),(t 29)]] [26,27,28,29,30])
 .ret)
 .skip))
 (s (s (r [
 m 31 3,
 v 32 (.bin .eql T.int (t 31) (c 0))] [31])
 (d 32
 (s (r [
 m 33 0,
 m 34 1,
 m 35 2,
 m 36 4,
 f 37 F.q41 [(t 33),(t 34),(t 35),(t 36)]] [33,34,35,36,37])
 .ret)
 .skip))
 (s (s (r [
 m 38 10,
 v 39 (N 38)] [38])
 (d 39
 (s (r [
 m 40 0,
 m 41 1,
 m 42 2,
 m 43 4,
 f 44 F.q4w [(t 40),(t 41),(t 42),(t 43)]] [40,41,42,43,44])
 (r [
 m 45 3,
 v 46 (.bin .sub T.int (t 45) (c 1)),
 m 3 46] [45,46]))
 .skip))
 (s (r [
 m 48 0,
 m 49 1,
 m 50 2,
 m 51 4,
 f 52 F.q4y [(t 48),(t 49),(t 50),(t 51)],
 m 47 52,
 x 53 0 47,
 x 54 1 47,
 m 13 53,
 m 14 54] [48,49,50,51,52,47,53,54])
 (s (s (r [
 m 55 14,
 v 56 (.bin .eql T.q5d (t 55) (c 2))] [55])
 (d 56
 (s (r [
 m 57 0,
 m 58 1,
 m 59 2,
 m 60 4,
 f 61 F.q4x [(t 57),(t 58),(t 59),(t 60)]] [57,58,59,60,61])
 (s (r [
 m 62 2,
 v 63 (.bin .sub T.int (t 62) (c 1)),
 m 64 13,
 m 65 1,
 v 66 (.bin .sub T.int (t 64) (t 65)),
 v 67 (.bin .sub T.int (t 63) (t 66)),
 m 13 67] [62,63,64,65,66,67])
 (r [
 i 14 1] [])))
 .skip))
 (s (s (r [
 m 68 10,
 m 69 68,
 w 70 69 (M 11),
 v 71 (k 69 70),
 m 72 71,
 w 73 72 (M 14),
 w 74 72 (.bin .eql T.q5d (t 73) (c 1)),
 v 75 (k 72 74)] [68,69,70,71,72,73,74])
 (d 75
 (s (r [
 m 76 0,
 m 77 1,
 m 78 2,
 m 79 4,
 f 80 F.q4u [(t 76),(t 77),(t 78),(t 79)]] [76,77,78,79])
 (d 80
 .ret
 .skip))
 .skip))
 (s (s (.draw true [
 e (m 81 1),
 e (v 82 (.bin .gtr T.int (t 81) (c 0))),
 e (m 83 82),
 e (w 84 83 (M 4)),
 e (w 85 83 (M 0)),
 e (w 86 83 (M 1)),
 e (w 87 83 (.bin .sub T.int (t 86) (c 1))),
 e (w 88 83 (I 24 85 87)),
 e (w 89 83 (E 24 88)),
 e (w 90 83 (M 0)),
 e (w 91 83 (M 13)),
 e (w 92 83 (I 24 90 91)),
 e (w 93 83 (E 24 92)),
 h (⟨some 94,some (83,true),.call (t 84) [(t 89),(t 93)]⟩),
 a (w 95 83 (.bin .lss T.int (t 94) (c 0))),
 a (w 96 83 (N 95)),
 a (v 97 (k 83 96))] [81,82,83,84,85,86,87,88,89,90,91,92,93,94,95,96])
 (d 97
 (s (r [
 m 98 0,
 m 99 1,
 m 100 2,
 m 101 13,
 m 102 4,
 f 103 F.q4v [(t 98),(t 99),(t 100),(t 101),(t 102)],
 m 15 103] [98,99,100,101,102,103])
 (s (r [
 m 104 15,
 m 1 104] [104])
 (.exit 1)))
 .skip))
 (s (r [
 m 106 0,
 m 107 1,
 m 108 2,
 m 109 13,
 m 110 4,
 f 111 F.q40 [(t 106),(t 107),(t 108),(t 109),(t 110)],
 m 105 111,
 x 112 0 105,
 x 113 1 105,
 m 16 112,
 m 17 113] [106,107,108,109,110,111,105,112,113])
 (s (r [
 m 114 17,
 m 11 114] [114])
 (s (r [
 m 115 16,
 m 116 1,
 v 117 (.bin .sub T.int (t 115) (t 116)),
 m 118 2,
 m 119 16,
 v 120 (.bin .sub T.int (t 118) (t 119)),
 m 18 117,
 m 19 120] [115,116,117,118,119,120])
 (s (r [
 m 121 12,
 v 122 (.bin .quo T.int (t 121) (c 8)),
 m 20 122] [121,122])
 (s (r [
 m 123 18,
 m 124 19,
 v 125 (A 123 124)] [123,124])
 (d 125
 (s (r [
 m 126 18,
 m 127 20,
 v 128 (.bin .geq T.int (t 126) (t 127)),
 m 10 128] [126,127,128])
 (s (r [
 m 129 0,
 m 130 1,
 m 131 16,
 m 132 3,
 m 133 4,
 f 134 F.q0z [(t 129),(t 130),(t 131),(t 132),(t 133)]] [129,130,131,132,133,134])
 (r [
 m 135 16,
 v 136 (p 135 1),
 m 1 136] [135,136])))
 (s (r [
 m 137 19,
 m 138 20,
 v 139 (.bin .geq T.int (t 137) (t 138)),
 m 10 139] [137,138,139])
 (s (r [
 m 140 0,
 m 141 16,
 v 142 (p 141 1),
 m 143 2,
 m 144 3,
 m 145 4,
 f 146 F.q0z [(t 140),(t 142),(t 143),(t 144),(t 145)]] [140,141,142,143,144,145,146])
 (r [
 m 147 16,
 m 2 147] [147]))))))))))))))))))))))⟩
theorem H.q0z:Has P F.q0z C.q0z:=⟨Tryz.f119,Tryz.func119,by kernel_rfl,by kernel_rfl⟩
noncomputable def C.q4k:MFunc:=⟨8,1,[.tmp 2],
 (s (r [
 i 2 0] [])
 (s (.cond (.const (.bool false))
 (s (r [
 m 3 0,
 v 4 (.toInt .u32 (t 3)),
 f 5 F.q46 [(t 4)],
 m 2 5] [3,4,5])
 .ret)
 .skip)
 (s (r [
 m 6 0,
 f 7 F.q4c [(t 6)],
 m 2 7] [6,7])
 .ret)))⟩
theorem H.q4k:Has P F.q4k C.q4k:=⟨Tryz.f120,Tryz.func120,by kernel_rfl,by kernel_rfl⟩
noncomputable def C.q4a:MFunc:=⟨8,2,[.tmp 4],
 (s (r [
 i 4 0] [])
 (s (r [
 m 5 0,
 m 6 1,
 f 7 F.q1o [(t 5),(t 6)],
 m 4 7] [5,6,7])
 .ret))⟩
theorem H.q4a:Has P F.q4a C.q4a:=⟨Tryz.f121,Tryz.func121,by kernel_rfl,by kernel_rfl⟩
noncomputable def C.q21:MFunc:=⟨79,1,[.tmp 2],
 (s (r [
 ⟨some 1,none,.box T.apiEvent (t 0)⟩,
 b 2 false] [])
 (s (s (r [
 g 3 0 1,
 l 4 3,
 f 5 F.q1b [(t 4),(c 0),(c 1048576)],
 v 6 (N 5),
 m 7 6,
 z 8 7 (G 2 1),
 z 9 7 (D 8),
 ⟨some 10,some (7,false),.call (.const (.func (.func F.q1b) [] [])) [(t 9),(c 0),(c 7)]⟩,
 z 11 7 (N 10),
 v 12 (j 7 11),
 m 13 12,
 z 14 13 (G 3 1),
 z 15 13 (D 14),
 ⟨some 16,some (13,false),.call (.const (.func (.func F.q1b) [] [])) [(t 15),(c 0),(c 4095)]⟩,
 z 17 13 (N 16),
 v 18 (j 13 17),
 m 19 18,
 z 20 19 (G 7 1),
 z 21 19 (D 20),
 ⟨some 22,some (19,false),.call (.const (.func (.func F.q1b) [] [])) [(t 21),(c 0),(c 2097151)]⟩,
 z 23 19 (N 22),
 v 24 (j 19 23),
 m 25 24,
 z 26 25 (G 8 1),
 z 27 25 (D 26),
 ⟨some 28,some (25,false),.call (.const (.func (.func F.q1b) [] [])) [(t 27),(c 0),(c 2097151)]⟩,
 z 29 25 (N 28),
 v 30 (j 25 29)] [3,4,5,6,7,8,9,10,11,12,13,14,15,16,17,18,19,20,21,22,23,24,25,26,27,28,29])
 (d 30
 (s (r [
 b 2 false] [])
 .ret)
 .skip))
 (s (s (r [
 g 31 1 1,
 l 32 31] [31])
 (.block 0 (s (r [
 v 34 (.bin .eql T.int (t 32) (c 1)),
 m 33 34] [34])
 (d 33
 (s (r [
 g 35 4 1,
 l 36 35,
 f 37 F.q1b [(t 36),(c 0),(c 255)],
 m 38 37,
 w 39 38 (G 5 1),
 w 40 38 (D 39),
 ⟨some 41,some (38,true),.call (.const (.func (.func F.q1b) [] [])) [(t 40),(c 0),(c 63)]⟩,
 v 42 (k 38 41),
 m 43 42,
 w 44 43 (G 6 1),
 w 45 43 (D 44),
 ⟨some 46,some (43,true),.call (.const (.func (.func F.q1b) [] [])) [(t 45),(c 0),(c 1000)]⟩,
 v 47 (k 43 46),
 m 2 47] [35,36,37,38,39,40,41,42,43,44,45,46,47])
 .ret)
 (s (s (r [
 v 49 (.bin .eql T.int (t 32) (c 2)),
 m 48 49] [49])
 (d 48
 .skip
 (r [
 v 50 (.bin .eql T.int (t 32) (c 3)),
 m 48 50] [50])))
 (d 48
 (s (r [
 g 51 4 1,
 l 52 51,
 v 53 (.bin .eql T.int (t 52) (c 0)),
 m 54 53,
 w 55 54 (G 5 1),
 w 56 54 (D 55),
 ⟨some 57,some (54,true),.call (.const (.func (.func F.q1b) [] [])) [(t 56),(c 0),(c 63)]⟩,
 v 58 (k 54 57),
 m 59 58,
 w 60 59 (G 6 1),
 w 61 59 (D 60),
 ⟨some 62,some (59,true),.call (.const (.func (.func F.q1b) [] [])) [(t 61),(c 0),(c 1000)]⟩,
 v 63 (k 59 62),
 m 2 63] [51,52,53,54,55,56,57,58,59,60,61,62,63])
 .ret)
 (s (r [
 v 65 (.bin .eql T.int (t 32) (c 4)),
 m 64 65] [65])
 (d 64
 (s (r [
 g 66 4 1,
 l 67 66,
 v 68 (.bin .eql T.int (t 67) (c 0)),
 m 69 68,
 w 70 69 (G 5 1),
 w 71 69 (D 70),
 w 72 69 (.bin .eql T.int (t 71) (c 0)),
 v 73 (k 69 72),
 m 74 73,
 w 75 74 (G 6 1),
 w 76 74 (D 75),
 ⟨some 77,some (74,true),.call (.const (.func (.func F.q1b) [] [])) [(t 76),(c 0),(c 1)]⟩,
 v 78 (k 74 77),
 m 2 78] [66,67,68,69,70,71,72,73,74,75,76,77,78])
 .ret)
 .skip))))))))
 (s (r [
 b 2 false] [])
 .ret))))⟩
theorem H.q21:Has P F.q21 C.q21:=⟨Tryz.f125,Tryz.func125,by kernel_rfl,by kernel_rfl⟩
noncomputable def C.q22:MFunc:=⟨37,1,[.tmp 2],
 (s (r [
 i 2 0] [])
 (s (s (r [
 m 4 0,
 v 5 (n 4),
 v 6 (.bin .gtr T.int (t 5) (c 4096))] [4,5])
 (d 6
 (s (r [
 i 2 2] [])
 .ret)
 .skip))
 (s (s (r [
 i 3 0] [])
 (.block 0 (.loop (s (s (r [
 m 7 3,
 m 8 0,
 v 9 (n 8),
 v 10 (A 7 9)] [7,8,9])
 (d 10
 .skip
 (.exit 0)))
 (s (.block 1 (s (.draw true [
 e (m 13 0),
 e (m 14 3),
 e (v 15 (I 14 13 14)),
 e (L 16 14 15),
 h (f 17 F.q3o [(t 16)]),
 a (v 18 (N 17)),
 a (m 19 18),
 a (z 20 19 (M 3)),
 a (z 21 19 (.bin .gtr T.int (t 20) (c 0))),
 a (z 22 19 (M 21)),
 a (w 23 22 (M 0)),
 a (w 24 22 (M 3)),
 a (w 25 22 (.bin .sub T.int (t 24) (c 1))),
 a (w 26 22 (I 14 23 25)),
 a (w 27 22 (G 0 26)),
 a (w 28 22 (D 27)),
 a (w 29 22 (M 0)),
 a (w 30 22 (M 3)),
 a (w 31 22 (I 14 29 30)),
 a (w 32 22 (G 0 31)),
 a (w 33 22 (D 32)),
 a (w 34 22 (.bin .geq T.int (t 28) (t 33))),
 a (z 35 19 (k 22 34)),
 a (v 36 (j 19 35))] [13,14,15,16,17,18,19,20,21,22,23,24,25,26,27,28,29,30,31,32,33,34,35])
 (d 36
 (s (r [
 i 2 510] [])
 .ret)
 .skip)))
 (r [
 m 11 3,
 v 12 (p 11 1),
 m 3 12] [11,12]))))))
 (s (r [
 i 2 0] [])
 .ret))))⟩
theorem H.q22:Has P F.q22 C.q22:=⟨Tryz.f126,Tryz.func126,by kernel_rfl,by kernel_rfl⟩
noncomputable def C.q3y:MFunc:=⟨11,1,[.tmp 2],
 (s (r [
 ⟨some 1,none,.box T.apiEvent (t 0)⟩,
 b 2 false] [])
 (s (r [
 g 3 5 1,
 l 4 3,
 f 5 F.q1m [(t 4),(c 0),(c 63)],
 m 6 5,
 w 7 6 (G 6 1),
 w 8 6 (D 7),
 ⟨some 9,some (6,true),.call (.const (.func (.func F.q1m) [] [])) [(t 8),(c 0),(c 1000)]⟩,
 v 10 (k 6 9),
 m 2 10] [3,4,5,6,7,8,9,10])
 .ret))⟩
theorem H.q3y:Has P F.q3y C.q3y:=⟨Tryz.f127,Tryz.func127,by kernel_rfl,by kernel_rfl⟩
noncomputable def C.q1m:MFunc:=⟨15,3,[.tmp 6],
 (s (r [
 b 6 false] [])
 (s (r [
 m 7 0,
 m 8 1,
 v 9 (.bin .geq T.int (t 7) (t 8)),
 m 10 9,
 w 11 10 (M 0),
 w 12 10 (M 2),
 w 13 10 (.bin .leq T.int (t 11) (t 12)),
 v 14 (k 10 13),
 m 6 14] [7,8,9,10,11,12,13,14])
 .ret))⟩
theorem H.q1m:Has P F.q1m C.q1m:=⟨Tryz.f128,Tryz.func128,by kernel_rfl,by kernel_rfl⟩
noncomputable def C.q3b:MFunc:=⟨12,2,[.tmp 3],
 (s (r [
 ⟨some 2,none,.box T.apiEvent (t 0)⟩,
 b 3 false] [])
 (s (r [
 g 4 4 2,
 l 5 4,
 v 6 (.bin .eql T.int (t 5) (c 0)),
 m 7 6,
 w 8 7 (D 1),
 w 9 7 (E 9 2),
 ⟨some 10,some (7,true),.call (t 8) [(t 9)]⟩,
 v 11 (k 7 10),
 m 3 11] [4,5,6,7,8,9,10,11])
 .ret))⟩
theorem H.q3b:Has P F.q3b C.q3b:=⟨Tryz.f129,Tryz.func129,by kernel_rfl,by kernel_rfl⟩
noncomputable def C.q3z:MFunc:=⟨12,2,[.tmp 3],
 (s (r [
 ⟨some 2,none,.box T.apiEvent (t 0)⟩,
 b 3 false] [])
 (s (r [
 g 4 4 2,
 l 5 4,
 f 6 F.q1m [(t 5),(c 0),(c 255)],
 m 7 6,
 w 8 7 (D 1),
 w 9 7 (E 9 2),
 ⟨some 10,some (7,true),.call (t 8) [(t 9)]⟩,
 v 11 (k 7 10),
 m 3 11] [4,5,6,7,8,9,10,11])
 .ret))⟩
theorem H.q3z:Has P F.q3z C.q3z:=⟨Tryz.f130,Tryz.func130,by kernel_rfl,by kernel_rfl⟩
noncomputable def C.q30:MFunc:=⟨16,1,[.tmp 2],
 (s (r [
 ⟨some 1,none,.box T.apiEvent (t 0)⟩,
 b 2 false] [])
 (s (r [
 g 3 4 1,
 l 4 3,
 v 5 (.bin .eql T.int (t 4) (c 0)),
 m 6 5,
 w 7 6 (G 5 1),
 w 8 6 (D 7),
 w 9 6 (.bin .eql T.int (t 8) (c 0)),
 v 10 (k 6 9),
 m 11 10,
 w 12 11 (G 6 1),
 w 13 11 (D 12),
 ⟨some 14,some (11,true),.call (.const (.func (.func F.q1m) [] [])) [(t 13),(c 0),(c 1)]⟩,
 v 15 (k 11 14),
 m 2 15] [3,4,5,6,7,8,9,10,11,12,13,14,15])
 .ret))⟩
theorem H.q30:Has P F.q30 C.q30:=⟨Tryz.f131,Tryz.func131,by kernel_rfl,by kernel_rfl⟩
noncomputable def C.q3g:MFunc:=⟨10,1,[.tmp 2],
 (s (r [
 ⟨some 1,none,.box T.apiDecision (t 0)⟩,
 b 2 false] [])
 (s (r [
 L 3 14 1,
 f 4 F.q32 [(t 3)],
 m 5 4,
 w 6 5 (G 4 1),
 w 7 5 (D 6),
 w 8 5 (.bin .eql T.int (t 7) (c 0)),
 v 9 (k 5 8),
 m 2 9] [3,4,5,6,7,8,9])
 .ret))⟩
theorem H.q3g:Has P F.q3g C.q3g:=⟨Tryz.f132,Tryz.func132,by kernel_rfl,by kernel_rfl⟩
noncomputable def C.q32:MFunc:=⟨17,1,[.tmp 2],
 (s (r [
 ⟨some 1,none,.box T.apiDecision (t 0)⟩,
 b 2 false] [])
 (s (r [
 g 3 3 1,
 l 4 3,
 v 5 (.bin .geq T.int (t 4) (c 0)),
 m 6 5,
 w 7 6 (G 3 1),
 w 8 6 (D 7),
 w 9 6 (.bin .leq T.int (t 8) (c 1048576)),
 v 10 (k 6 9),
 m 11 10,
 w 12 11 (G 5 1),
 w 13 11 (E 9 12),
 w 14 11 (.build q3 []),
 w 15 11 (.eqAgg false [.int,.int,.int,.int,.int,.int,.int,.int,.int] (t 13) (t 14)),
 v 16 (k 11 15),
 m 2 16] [3,4,5,6,7,8,9,10,11,12,13,14,15,16])
 .ret))⟩
theorem H.q32:Has P F.q32 C.q32:=⟨Tryz.f133,Tryz.func133,by kernel_rfl,by kernel_rfl⟩
noncomputable def C.q3h:MFunc:=⟨15,1,[.tmp 2],
 (s (r [
 ⟨some 1,none,.box T.apiDecision (t 0)⟩,
 b 2 false] [])
 (s (r [
 L 3 14 1,
 f 4 F.q32 [(t 3)],
 m 5 4,
 w 6 5 (G 4 1),
 w 7 5 (D 6),
 w 8 5 (.bin .geq T.int (t 7) (c 0)),
 v 9 (k 5 8),
 m 10 9,
 w 11 10 (G 4 1),
 w 12 10 (D 11),
 w 13 10 (.bin .leq T.int (t 12) (c 1000)),
 v 14 (k 10 13),
 m 2 14] [3,4,5,6,7,8,9,10,11,12,13,14])
 .ret))⟩
theorem H.q3h:Has P F.q3h C.q3h:=⟨Tryz.f135,Tryz.func135,by kernel_rfl,by kernel_rfl⟩
noncomputable def C.q4l:MFunc:=⟨7,1,[.tmp 2],
 (s (r [
 ⟨some 1,none,.box T.apiEvent (t 0)⟩,
 b 2 false] [])
 (s (r [
 L 3 9 1,
 v 4 (.buildSlice T.apiEvent 1 q3 [(0,9,(t 3))]),
 f 5 F.q34 [(t 4)],
 v 6 (.bin .eql T.apiErrno (t 5) (c 0)),
 m 2 6] [3,4,5,6])
 .ret))⟩
theorem H.q4l:Has P F.q4l C.q4l:=⟨Tryz.f137,Tryz.func137,by kernel_rfl,by kernel_rfl⟩
noncomputable def C.q3i:MFunc:=⟨16,1,[.tmp 2],
 (s (r [
 ⟨some 1,none,.box T.apiDecision (t 0)⟩,
 b 2 false] [])
 (s (r [
 g 3 3 1,
 l 4 3,
 v 5 (.bin .eql T.int (t 4) (c 0)),
 m 6 5,
 w 7 6 (G 4 1),
 w 8 6 (D 7),
 w 9 6 (.bin .eql T.int (t 8) (c 0)),
 v 10 (k 6 9),
 m 11 10,
 w 12 11 (G 5 1),
 w 13 11 (E 9 12),
 ⟨some 14,some (11,true),.call (.const (.func (.func F.q4l) [] [])) [(t 13)]⟩,
 v 15 (k 11 14),
 m 2 15] [3,4,5,6,7,8,9,10,11,12,13,14,15])
 .ret))⟩
theorem H.q3i:Has P F.q3i C.q3i:=⟨Tryz.f138,Tryz.func138,by kernel_rfl,by kernel_rfl⟩
noncomputable def C.q23:MFunc:=⟨22,1,[.tmp 2],
 (s (r [
 ⟨some 1,none,.box T.apiEvent (t 0)⟩,
 v 2 (.mv (.const .nil))] [])
 (s (r [
 g 3 0 1,
 l 4 3,
 g 5 1 1,
 l 6 5,
 g 7 2 1,
 l 8 7,
 g 9 3 1,
 l 10 9,
 g 11 4 1,
 l 12 11,
 g 13 5 1,
 l 14 13,
 g 15 6 1,
 l 16 15,
 g 17 7 1,
 l 18 17,
 g 19 8 1,
 l 20 19,
 v 21 (.buildSlice T.int 9 q3 [(0,1,(t 4)),(1,1,(t 6)),(2,1,(t 8)),(3,1,(t 10)),(4,1,(t 12)),(5,1,(t 14)),(6,1,(t 16)),(7,1,(t 18)),(8,1,(t 20))]),
 m 2 21] [3,4,5,6,7,8,9,10,11,12,13,14,15,16,17,18,19,20,21])
 .ret))⟩
theorem H.q23:Has P F.q23 C.q23:=⟨Tryz.f140,Tryz.func140,by kernel_rfl,by kernel_rfl⟩
noncomputable def C.q15:MFunc:=⟨9,1,[.tmp 2],
 (s (r [
 ⟨some 1,none,.box T.apiValue (t 0)⟩,
 i 2 0] [])
 (s (s (r [
 L 3 4 1,
 f 4 F.q0m [(t 3)],
 v 5 (N 4)] [3,4])
 (d 5
 (s (r [
 i 2 1] [])
 .ret)
 .skip))
 (s (s (r [
 L 6 4 1,
 f 7 F.q0q [(t 6)],
 v 8 (.bin .gtr T.int (t 7) (c 16))] [6,7])
 (d 8
 (s (r [
 i 2 2] [])
 .ret)
 .skip))
 (s (r [
 i 2 0] [])
 .ret))))⟩
theorem H.q15:Has P F.q15 C.q15:=⟨Tryz.f141,Tryz.func141,by kernel_rfl,by kernel_rfl⟩
noncomputable def C.q0j:MFunc:=⟨50,1,[.tmp 2],
 (s (r [
 ⟨some 1,none,.box T.apiValue (t 0)⟩,
 v 2 (.mv (.const .nil))] [])
 (s (s (r [
 g 5 0 1,
 l 6 5] [5])
 (.block 0 (s (r [
 v 8 (.bin .eql T.int (t 6) (c 1)),
 m 7 8] [8])
 (d 7
 (s (r [
 v 9 (.buildSlice T.uint8 1 [(.val (.int .u8 0))] [(0,1,(.const (.val (.int .u8 1))))]),
 g 10 1 1,
 l 11 10,
 f 12 F.q11 [(t 11)],
 f 13 F.q1t [(t 12)],
 ⟨some 14,none,.append T.uint8 1 1 (t 9) (t 13)⟩,
 m 2 14] [9,10,11,12,13,14])
 .ret)
 (s (r [
 v 16 (.bin .eql T.int (t 6) (c 2)),
 m 15 16] [16])
 (d 15
 (s (.draw true [
 a (v 17 (.buildSlice T.uint8 1 [(.val (.int .u8 0))] [(0,1,(.const (.val (.int .u8 2))))])),
 e (g 18 2 1),
 e (l 19 18),
 e (v 20 (.strlen (t 19))),
 e (v 21 (.toInt .u64 (t 20))),
 a (g 24 2 1),
 a (l 25 24),
 h (f 22 F.q1t [(t 21)]),
 h (⟨some 23,none,.append T.uint8 1 1 (t 17) (t 22)⟩),
 h (⟨some 26,none,.append T.uint8 1 1 (t 23) (t 25)⟩),
 a (m 2 26)] [17,18,19,20,21,22,23,24,25,26])
 .ret)
 .skip))))))
 (s (r [
 v 27 (.buildSlice T.uint8 1 [(.val (.int .u8 0))] [(0,1,(.const (.val (.int .u8 3))))]),
 g 28 3 1,
 l 29 28,
 v 30 (n 29),
 v 31 (.toInt .u64 (t 30)),
 f 32 F.q1t [(t 31)],
 ⟨some 33,none,.append T.uint8 1 1 (t 27) (t 32)⟩,
 m 3 33] [27,28,29,30,31,32,33])
 (s (s (r [
 i 4 0] [])
 (.block 1 (.loop (s (s (r [
 m 34 4,
 g 35 3 1,
 l 36 35,
 v 37 (n 36),
 v 38 (A 34 37)] [34,35,36,37])
 (d 38
 .skip
 (.exit 1)))
 (s (.block 2 (r [
 m 41 3,
 g 42 3 1,
 l 43 42,
 m 44 4,
 v 45 (I 4 43 44),
 L 46 4 45,
 f 47 F.q0j [(t 46)],
 ⟨some 48,none,.append T.uint8 1 1 (t 41) (t 47)⟩,
 m 3 48] [41,42,43,44,45,46,47,48]))
 (r [
 m 39 4,
 v 40 (p 39 1),
 m 4 40] [39,40]))))))
 (s (r [
 m 49 3,
 m 2 49] [49])
 .ret)))))⟩
theorem H.q0j:Has P F.q0j C.q0j:=⟨Tryz.f142,Tryz.func142,by kernel_rfl,by kernel_rfl⟩
noncomputable def C.q0g:MFunc:=⟨49,3,[.tmp 6,.tmp 7],
 (s (r [
 ⟨some 4,none,.box T.apiNote (t 1)⟩,
 i 6 0,
 b 7 false] [])
 (s (r [
 m 12 0,
 v 13 (n 12),
 m 8 13] [12,13])
 (s (r [
 m 14 8,
 i 9 0,
 m 10 14] [14])
 (s (.block 0 (.loop (s (s (r [
 m 15 9,
 m 16 10,
 v 17 (A 15 16)] [15,16])
 (d 17
 .skip
 (.exit 0)))
 (.block 1 (s (r [
 m 18 9,
 m 19 10,
 v 20 (.bin .add T.int (t 18) (t 19)),
 v 21 (.toInt .u64 (t 20)),
 v 22 (.bin .shr T.uint (t 21) (.const (.val (.int .u64 1)))),
 v 23 (.toInt .i64 (t 22)),
 m 11 23] [18,19,20,21,22,23])
 (s (.draw true [
 e (m 24 2),
 e (m 25 0),
 e (m 26 11),
 e (v 27 (I 24 25 26)),
 e (L 28 24 27),
 e (L 29 24 4),
 h (⟨some 30,none,.call (t 24) [(t 28),(t 29)]⟩),
 a (v 31 (.bin .lss T.int (t 30) (c 0)))] [24,25,26,27,28,29,30])
 (d 31
 (r [
 m 32 11,
 v 33 (p 32 1),
 m 9 33] [32,33])
 (r [
 m 34 11,
 m 10 34] [34]))))))))
 (s (.draw true [
 a (m 35 9),
 e (m 36 9),
 e (m 37 8),
 e (v 38 (A 36 37)),
 e (m 39 38),
 e (w 40 39 (M 2)),
 e (w 41 39 (M 0)),
 e (w 42 39 (M 9)),
 e (w 43 39 (I 24 41 42)),
 e (w 44 39 (E 24 43)),
 e (w 45 39 (E 24 4)),
 h (⟨some 46,some (39,true),.call (t 40) [(t 44),(t 45)]⟩),
 a (w 47 39 (.bin .eql T.int (t 46) (c 0))),
 a (v 48 (k 39 47)),
 a (m 6 35),
 a (m 7 48)] [35,36,37,38,39,40,41,42,43,44,45,46,47,48])
 .ret)))))⟩
theorem H.q0g:Has P F.q0g C.q0g:=⟨Tryz.f143,Tryz.func143,by kernel_rfl,by kernel_rfl⟩
noncomputable def C.q0x:MFunc:=⟨95,3,[.tmp 6],
 (s (r [
 v 6 (.mv (.const .nil))] [])
 (s (r [
 m 10 0,
 m 11 1,
 v 12 (.slice 24 (t 10) (some (t 11)) none none)] [10,11,12])
 (s (r [
 m 13 2,
 v 14 (n 13),
 m 7 14] [13,14])
 (s (s (r [
 m 15 7,
 v 16 (.bin .eql T.int (t 15) (c 0))] [15])
 (d 16
 (s (r [
 m 17 0,
 m 6 17] [17])
 .ret)
 .skip))
 (s (r [
 m 18 0,
 v 19 (n 18),
 m 8 19] [18,19])
 (s (s (r [
 m 20 1,
 m 21 8,
 v 22 (B 20 21)] [20,21])
 (d 22
 (s (r [
 m 23 0,
 m 24 2,
 ⟨some 25,none,.append T.apiNote 192 24 (t 23) (t 24)⟩,
 m 6 25] [23,24,25])
 .ret)
 .skip))
 (s (s (r [
 m 26 8,
 m 27 7,
 v 28 (.bin .add T.int (t 26) (t 27)),
 m 29 0,
 v 30 (.cap (t 29)),
 v 31 (.bin .gtr T.int (t 28) (t 30))] [26,27,28,29,30])
 (d 31
 (s (r [
 m 32 0,
 m 33 1,
 v 34 (.slice 24 (t 32) none (some (t 33)) none),
 m 35 8,
 m 36 7,
 v 37 (.bin .add T.int (t 35) (t 36)),
 m 38 1,
 v 39 (.bin .sub T.int (t 37) (t 38)),
 ⟨some 40,none,.appendZ T.apiNote 192 24 q1 (t 34) (t 39)⟩,
 m 9 40] [32,33,34,35,36,37,38,39,40])
 (s (r [
 m 41 9,
 m 42 1,
 v 43 (.slice 24 (t 41) (some (t 42)) none none),
 m 44 2,
 ⟨some 45,none,.copy 24 (t 43) (t 44)⟩] [41,42,43,44,45])
 (s (.draw false [
 e (m 46 9),
 e (m 47 1),
 e (m 48 7),
 e (v 49 (.bin .add T.int (t 47) (t 48))),
 e (v 50 (.slice 24 (t 46) (some (t 49)) none none)),
 e (m 51 0),
 e (m 52 1),
 e (v 53 (.slice 24 (t 51) (some (t 52)) none none)),
 h (⟨some 54,none,.copy 24 (t 50) (t 53)⟩)] [46,47,48,49,50,51,52,53,54])
 (s (r [
 m 55 9,
 m 6 55] [55])
 .ret))))
 .skip))
 (s (r [
 m 56 0,
 m 57 8,
 m 58 7,
 v 59 (.bin .add T.int (t 57) (t 58)),
 v 60 (.slice 24 (t 56) none (some (t 59)) none),
 m 0 60] [56,57,58,59,60])
 (s (s (r [
 m 61 2,
 m 62 0,
 m 63 1,
 m 64 7,
 v 65 (.bin .add T.int (t 63) (t 64)),
 v 66 (.slice 24 (t 62) (some (t 65)) none none),
 f 67 F.q4t [(t 61),(t 66)],
 v 68 (N 67)] [61,62,63,64,65,66,67])
 (d 68
 (s (.draw false [
 e (m 69 0),
 e (m 70 1),
 e (m 71 7),
 e (v 72 (.bin .add T.int (t 70) (t 71))),
 e (v 73 (.slice 24 (t 69) (some (t 72)) none none)),
 e (m 74 0),
 e (m 75 1),
 e (v 76 (.slice 24 (t 74) (some (t 75)) none none)),
 h (⟨some 77,none,.copy 24 (t 73) (t 76)⟩)] [69,70,71,72,73,74,75,76,77])
 (s (r [
 m 78 0,
 m 79 1,
 v 80 (.slice 24 (t 78) (some (t 79)) none none),
 m 81 2,
 ⟨some 82,none,.copy 24 (t 80) (t 81)⟩] [78,79,80,81,82])
 (s (r [
 m 83 0,
 m 6 83] [83])
 .ret)))
 .skip))
 (s (r [
 m 84 0,
 m 85 8,
 v 86 (.slice 24 (t 84) (some (t 85)) none none),
 m 87 2,
 ⟨some 88,none,.copy 24 (t 86) (t 87)⟩] [84,85,86,87,88])
 (s (r [
 m 89 0,
 m 90 1,
 v 91 (.slice 24 (t 89) (some (t 90)) none none),
 m 92 7,
 f 93 F.q45 [(t 91),(t 92)]] [89,90,91,92,93])
 (s (r [
 m 94 0,
 m 6 94] [94])
 .ret))))))))))))⟩
theorem H.q0x:Has P F.q0x C.q0x:=⟨Tryz.f144,Tryz.func144,by kernel_rfl,by kernel_rfl⟩
noncomputable def C.q1n:MFunc:=⟨8,1,[.tmp 2],
 (s (r [
 v 2 (.mv (.const .nil))] [])
 (s (s (r [
 m 3 0,
 ⟨some 4,none,.eqNil false .slice (t 3)⟩] [3])
 (d 4
 (s (r [
 v 2 (.mv (.const .nil))] [])
 .ret)
 .skip))
 (s (r [
 v 5 (.buildSlice T.apiNote 0 [] []),
 m 6 0,
 ⟨some 7,none,.append T.apiNote 192 24 (t 5) (t 6)⟩,
 m 2 7] [5,6,7])
 .ret)))⟩
theorem H.q1n:Has P F.q1n C.q1n:=⟨Tryz.f145,Tryz.func145,by kernel_rfl,by kernel_rfl⟩
noncomputable def C.q4i:MFunc:=⟨34,2,[.cell 4 2 true,.tmp 5],
 (s (r [
 ⟨some 2,none,.box T.apiNet (t 0)⟩,
 ⟨some 3,none,.box T.apiPacket (t 1)⟩,
 ⟨some 4,none,.alloc T.apiNet [.nil,.nil]⟩,
 i 5 0] [])
 (s (s (r [
 L 6 2 2,
 f 7 F.q3r [(t 6)],
 v 8 (.bin .neq T.apiErrno (t 7) (c 0)),
 m 9 8,
 z 10 9 (E 3 3),
 ⟨some 11,some (9,false),.call (.const (.func (.func F.q31) [] [])) [(t 10)]⟩,
 z 12 9 (N 11),
 v 13 (j 9 12)] [6,7,8,9,10,11,12])
 (d 13
 (s (r [
 L 14 2 4,
 y 2 4 14,
 i 5 60] [14])
 .ret)
 .skip))
 (s (s (r [
 g 15 0 2,
 l 16 15,
 v 17 (n 16),
 v 18 (.bin .eql T.int (t 17) (c 4096))] [15,16,17])
 (d 18
 (s (r [
 L 19 2 4,
 y 2 4 19,
 i 5 2] [19])
 .ret)
 .skip))
 (s (.draw true [
 e (g 20 0 2),
 e (l 21 20),
 e (g 22 0 2),
 e (l 23 22),
 e (v 24 (n 23)),
 e (g 25 0 2),
 e (l 26 25),
 e (v 27 (n 26)),
 e (v 28 (.slice 3 (t 21) none (some (t 24)) (some (t 27)))),
 e (L 29 3 3),
 e (v 30 (.buildSlice T.apiPacket 1 q4 [(0,3,(t 29))])),
 h (⟨some 31,none,.append T.apiPacket 40 3 (t 28) (t 30)⟩),
 a (g 32 0 2),
 (.last,y 1 32 31)] [20,21,22,23,24,25,26,27,28,29,30,31,32])
 (s (r [
 L 33 2 2,
 y 2 4 33,
 i 5 0] [33])
 .ret)))))⟩
theorem H.q4i:Has P F.q4i C.q4i:=⟨Tryz.f146,Tryz.func146,by kernel_rfl,by kernel_rfl⟩
noncomputable def C.q33:MFunc:=⟨25,2,[.cell 4 3 true,.tmp 5],
 (s (r [
 ⟨some 2,none,.box T.apiNet (t 0)⟩,
 ⟨some 4,none,.alloc T.apiPacket q4⟩,
 i 5 0] [])
 (s (s (r [
 L 6 2 2,
 f 7 F.q3r [(t 6)],
 v 8 (.bin .neq T.apiErrno (t 7) (c 0))] [6,7])
 (d 8
 (s (r [
 L 9 3 4,
 y 3 4 9,
 i 5 60] [9])
 .ret)
 .skip))
 (s (s (r [
 m 10 1,
 v 11 (.bin .lss T.int (t 10) (c 0)),
 m 12 11,
 z 13 12 (M 1),
 z 14 12 (G 0 2),
 z 15 12 (D 14),
 z 16 12 (n 15),
 z 17 12 (.bin .geq T.int (t 13) (t 16)),
 v 18 (j 12 17)] [10,11,12,13,14,15,16,17])
 (d 18
 (s (r [
 L 19 3 4,
 y 3 4 19,
 i 5 1] [19])
 .ret)
 .skip))
 (s (r [
 g 20 0 2,
 l 21 20,
 m 22 1,
 v 23 (I 3 21 22),
 L 24 3 23,
 y 3 4 24,
 i 5 0] [20,21,22,23,24])
 .ret))))⟩
theorem H.q33:Has P F.q33 C.q33:=⟨Tryz.f147,Tryz.func147,by kernel_rfl,by kernel_rfl⟩
noncomputable def C.q1v:MFunc:=⟨9,2,[.tmp 4],
 (s (r [
 ⟨some 3,none,.box T.t2int (t 1)⟩,
 b 4 false] [])
 (s (r [
 m 5 0,
 L 6 2 3,
 f 7 F.q18 [(t 5),(t 6)],
 v 8 (.bin .geq T.int (t 7) (c 0)),
 m 4 8] [5,6,7,8])
 .ret))⟩
theorem H.q1v:Has P F.q1v C.q1v:=⟨Tryz.f148,Tryz.func148,by kernel_rfl,by kernel_rfl⟩
noncomputable def C.q3j:MFunc:=⟨12,2,[.cell 4 2 true],
 (s (r [
 ⟨some 4,none,.alloc T.networklink q5⟩] [])
 (s (r [
 m 5 0,
 m 6 1,
 v 7 (.minmax false [(t 5),(t 6)]),
 m 8 0,
 m 9 1,
 v 10 (.minmax true [(t 8),(t 9)]),
 v 11 (.build q5 [(0,1,(t 7)),(1,1,(t 10))]),
 y 2 4 11] [5,6,7,8,9,10,11])
 .ret))⟩
theorem H.q3j:Has P F.q3j C.q3j:=⟨Tryz.f149,Tryz.func149,by kernel_rfl,by kernel_rfl⟩
noncomputable def C.q3k:MFunc:=⟨18,2,[.cell 4 2 true],
 (s (r [
 ⟨some 2,none,.box T.apiNet (t 0)⟩,
 ⟨some 4,none,.alloc T.apiNet [.nil,.nil]⟩] [])
 (s (.draw true [
 e (g 5 0 2),
 e (l 6 5),
 e (m 7 1),
 e (m 8 1),
 e (v 9 (.slice 3 (t 6) none (some (t 7)) (some (t 8)))),
 e (g 10 0 2),
 e (l 11 10),
 e (m 12 1),
 e (v 13 (p 12 1)),
 e (v 14 (.slice 3 (t 11) (some (t 13)) none none)),
 h (⟨some 15,none,.append T.apiPacket 40 3 (t 9) (t 14)⟩),
 a (g 16 0 2),
 (.last,y 1 16 15)] [5,6,7,8,9,10,11,12,13,14,15,16])
 (s (r [
 L 17 2 2,
 y 2 4 17] [17])
 .ret)))⟩
theorem H.q3k:Has P F.q3k C.q3k:=⟨Tryz.f150,Tryz.func150,by kernel_rfl,by kernel_rfl⟩
noncomputable def C.q3n:MFunc:=⟨37,3,[.tmp 6],
 (s (r [
 ⟨some 3,none,.box T.apiNet (t 0)⟩,
 b 6 false] [])
 (s (s (r [
 i 7 0] [])
 (.block 0 (.loop (s (s (r [
 m 8 7,
 g 9 1 3,
 l 10 9,
 v 11 (n 10),
 v 12 (A 8 11)] [8,9,10,11])
 (d 12
 .skip
 (.exit 0)))
 (s (.block 1 (s (r [
 g 15 1 3,
 l 16 15,
 m 17 7,
 v 18 (I 2 16 17),
 v 19 (.indexArr 2 1 (t 18) (c 0)),
 l 20 19,
 m 21 1,
 m 22 2,
 v 23 (.minmax false [(t 21),(t 22)]),
 v 24 (B 20 23),
 m 25 24,
 w 26 25 (G 1 3),
 w 27 25 (D 26),
 w 28 25 (M 7),
 w 29 25 (I 2 27 28),
 w 30 25 (.indexArr 2 1 (t 29) (c 1)),
 w 31 25 (D 30),
 w 32 25 (M 1),
 w 33 25 (M 2),
 w 34 25 (.minmax true [(t 32),(t 33)]),
 w 35 25 (B 31 34),
 v 36 (k 25 35)] [15,16,17,18,19,20,21,22,23,24,25,26,27,28,29,30,31,32,33,34,35])
 (d 36
 (s (r [
 b 6 true] [])
 .ret)
 .skip)))
 (r [
 m 13 7,
 v 14 (p 13 1),
 m 7 14] [13,14]))))))
 (s (r [
 b 6 false] [])
 .ret)))⟩
theorem H.q3n:Has P F.q3n C.q3n:=⟨Tryz.f151,Tryz.func151,by kernel_rfl,by kernel_rfl⟩
noncomputable def C.q01:MFunc:=⟨19,2,[.tmp 4],
 (s (r [
 i 4 0] [])
 (s (s (r [
 m 6 0,
 v 7 (n 6),
 i 8 0] [6])
 (.block 0 (.loop (s (r [
 v 9 (A 8 7)] [])
 (s (d 9
 .skip
 (.exit 0))
 (s (.block 1 (s (r [
 m 10 8,
 m 5 10] [10])
 (s (r [
 m 11 1,
 m 12 0,
 m 13 5,
 v 14 (I 3 12 13),
 L 15 3 14,
 ⟨some 16,none,.call (t 11) [(t 15)]⟩] [11,12,13,14,15])
 (d 16
 (s (r [
 m 17 5,
 m 4 17] [17])
 .ret)
 .skip))))
 (r [
 v 18 (p 8 1),
 m 8 18] [18])))))))
 (s (r [
 v 4 (.mv (.const (.int (-1))))] [])
 .ret)))⟩
theorem H.q01:Has P F.q01 C.q01:=⟨Tryz.f152,Tryz.func152,by kernel_rfl,by kernel_rfl⟩
noncomputable def C.q2z:MRFunc:=⟨9,2,3,[],
 (s (r [
 m 2 3] [])
 (s (r [
 m 4 2,
 ⟨some 5,none,.eqNil true .iface (t 4)⟩] [4])
 (s (d 5
 (.draw true [
 (.early,⟨some 6,none,.val (.build [(.int 0),(.int 0),(.val (.string ⟨#[]⟩)),.nil] [])⟩),
 a (m 7 2),
 a (v 8 (.assert T.apiErrno (.int 0) false (t 7))),
 (.last,y 4 0 6),
 (.last,y 1 1 8)] [6,7,8])
 .skip)
 .skip)))⟩
theorem H.q2z:HasR P F.q2z C.q2z:=⟨Tryz.f153,Tryz.func153,by kernel_rfl,by kernel_rfl⟩
noncomputable def C.q06:MFunc:=⟨50,2,[.cell 4 4 true],
 (s (r [
 ⟨some 4,none,.alloc T.apiValue [(.int 0),(.int 0),(.val (.string ⟨#[]⟩)),.nil]⟩] [])
 (s (r [
 m 5 0,
 f 6 F.q00 [(t 5),(c 1)],
 v 7 (.indexAddr 1 (t 6) (c 0)),
 l 8 7,
 v 9 (.toInt .i64 (t 8)),
 g 10 0 4,
 y 1 10 9] [5,6,7,8,9,10])
 (s (s (r [
 g 11 0 4,
 l 12 11] [11])
 (.block 0 (s (r [
 v 16 (.bin .eql T.int (t 12) (c 1)),
 m 15 16] [16])
 (d 15
 (r [
 m 17 0,
 f 18 F.q2h [(t 17)],
 f 19 F.q4p [(t 18)],
 g 20 1 4,
 y 1 20 19] [17,18,19,20])
 (s (r [
 v 22 (.bin .eql T.int (t 12) (c 2)),
 m 21 22] [22])
 (d 21
 (r [
 m 23 0,
 m 24 0,
 f 25 F.q2i [(t 24)],
 f 26 F.q00 [(t 23),(t 25)],
 v 27 (.strOf (t 26)),
 g 28 2 4,
 y 1 28 27] [23,24,25,26,27,28])
 (s (r [
 v 30 (.bin .eql T.int (t 12) (c 3)),
 m 29 30] [30])
 (d 29
 (s (r [
 m 31 0,
 m 32 1,
 v 33 (.bin .lss T.int (t 32) (c 16)),
 f 34 F.q04 [(t 31),(t 33)]] [31,32,33,34])
 (s (r [
 m 35 0,
 f 36 F.q2i [(t 35)],
 i 37 0] [35])
 (.block 1 (.loop (s (r [
 v 38 (A 37 36)] [])
 (s (d 38
 .skip
 (.exit 1))
 (s (.block 2 (.draw true [
 a (g 39 3 4),
 a (l 40 39),
 e (m 41 0),
 e (m 42 1),
 e (v 43 (p 42 1)),
 h (f 44 F.q06 [(t 41),(t 43)]),
 (.late,⟨some 45,none,.val (.buildSlice T.apiValue 1 [(.int 0),(.int 0),(.val (.string ⟨#[]⟩)),.nil] [(0,4,(t 44))])⟩),
 h (⟨some 46,none,.append T.apiValue 56 4 (t 40) (t 45)⟩),
 a (g 47 3 4),
 (.last,y 1 47 46)] [39,40,41,42,43,44,45,46,47]))
 (r [
 v 48 (p 37 1),
 m 37 48] [48]))))))))
 (r [
 m 13 0,
 f 14 F.q04 [(t 13),(.const (.bool false))]] [13,14])))))))))
 (s (r [
 L 49 4 4,
 y 4 4 49] [49])
 .ret))))⟩
theorem H.q06:Has P F.q06 C.q06:=⟨Tryz.f154,Tryz.func154,by kernel_rfl,by kernel_rfl⟩
noncomputable def C.q04:MFunc:=⟨7,2,[],
 (s (r [
 m 4 1,
 v 5 (N 4)] [4])
 (d 5
 (r [
 v 6 (.mkIface T.apiErrno (c 10)),
 ⟨none,none,.panic (t 6)⟩] [6])
 .skip))⟩
theorem H.q04:Has P F.q04 C.q04:=⟨Tryz.f155,Tryz.func155,by kernel_rfl,by kernel_rfl⟩
noncomputable def C.q4f:MFunc:=⟨31,1,[.cell 2 9 true],
 (s (r [
 ⟨some 2,none,.alloc T.t9int [(.val (.pointer none)),(.val (.pointer none)),(.val (.pointer none)),(.val (.pointer none)),(.val (.pointer none)),(.val (.pointer none)),(.val (.pointer none)),(.val (.pointer none)),(.val (.pointer none))]⟩] [])
 (s (.draw false [
 e (m 3 0),
 e (v 4 (.nilCheck (t 3))),
 e (g 5 0 4),
 e (m 6 0),
 e (v 7 (.nilCheck (t 6))),
 e (g 8 1 7),
 e (m 9 0),
 e (v 10 (.nilCheck (t 9))),
 e (g 11 2 10),
 e (m 12 0),
 e (v 13 (.nilCheck (t 12))),
 e (g 14 3 13),
 e (m 15 0),
 e (v 16 (.nilCheck (t 15))),
 e (g 17 4 16),
 e (m 18 0),
 e (v 19 (.nilCheck (t 18))),
 e (g 20 5 19),
 e (m 21 0),
 e (v 22 (.nilCheck (t 21))),
 e (g 23 6 22),
 e (m 24 0),
 e (v 25 (.nilCheck (t 24))),
 e (g 26 7 25),
 e (m 27 0),
 e (v 28 (.nilCheck (t 27))),
 e (g 29 8 28),
 e (v 30 (.build [(.val (.pointer none)),(.val (.pointer none)),(.val (.pointer none)),(.val (.pointer none)),(.val (.pointer none)),(.val (.pointer none)),(.val (.pointer none)),(.val (.pointer none)),(.val (.pointer none))] [(0,1,(t 5)),(1,1,(t 8)),(2,1,(t 11)),(3,1,(t 14)),(4,1,(t 17)),(5,1,(t 20)),(6,1,(t 23)),(7,1,(t 26)),(8,1,(t 29))])),
 (.last,y 9 2 30)] [3,4,5,6,7,8,9,10,11,12,13,14,15,16,17,18,19,20,21,22,23,24,25,26,27,28,29,30])
 .ret))⟩
theorem H.q4f:Has P F.q4f C.q4f:=⟨Tryz.f156,Tryz.func156,by kernel_rfl,by kernel_rfl⟩
noncomputable def C.q1g:MFunc:=⟨36,1,[.tmp 2],
 (s (r [
 v 2 (.mv (.const .nil))] [])
 (s (r [
 i 3 0] [])
 (s (s (r [
 m 9 0,
 v 10 (n 9),
 i 11 0] [])
 (.block 0 (.loop (s (r [
 v 12 (A 11 10)] [])
 (s (d 12
 .skip
 (.exit 0))
 (s (.block 1 (s (r [
 v 13 (I 1 9 11),
 l 14 13,
 m 5 14] [13,14])
 (s (r [
 m 15 3,
 m 16 5,
 v 17 (n 16),
 v 18 (.bin .add T.int (t 15) (t 17)),
 m 3 18] [15,16,17,18])
 (s (r [
 m 19 3,
 v 20 (.bin .lss T.int (t 19) (c 0))] [19])
 (d 20
 (r [
 ⟨some 21,none,.val (.mkIface T.string (.const (.val (.string ⟨#[108,101,110,32,111,117,116,32,111,102,32,114,97,110,103,101]⟩))))⟩,
 ⟨none,none,.panic (t 21)⟩] [21])
 .skip)))))
 (r [
 v 22 (p 11 1),
 m 11 22] [22])))))))
 (s (r [
 m 23 3,
 f 24 F.q2t [(.const .nil),(t 23)],
 m 6 24] [23,24])
 (s (s (r [
 m 25 0,
 v 26 (n 25),
 i 27 0] [])
 (.block 2 (.loop (s (r [
 v 28 (A 27 26)] [])
 (s (d 28
 .skip
 (.exit 2))
 (s (.block 3 (s (r [
 v 29 (I 1 25 27),
 l 30 29,
 m 8 30] [29,30])
 (r [
 m 31 6,
 m 32 8,
 ⟨some 33,none,.append T.int_2 8 1 (t 31) (t 32)⟩,
 m 6 33] [31,32,33])))
 (r [
 v 34 (p 27 1),
 m 27 34] [34])))))))
 (s (r [
 m 35 6,
 m 2 35] [35])
 .ret))))))⟩
theorem H.q1g:Has P F.q1g C.q1g:=⟨Tryz.f157,Tryz.func157,by kernel_rfl,by kernel_rfl⟩
noncomputable def C.q0r:MFunc:=⟨142,2,[.cell 4 4 true],
 (s (r [
 ⟨some 4,none,.alloc T.apiValue [(.int 0),(.int 0),(.val (.string ⟨#[]⟩)),.nil]⟩] [])
 (s (s (r [
 m 10 0,
 f 11 F.q0v [(t 10)]] [10])
 (.block 0 (s (r [
 v 13 (.bin .eql T.uint8 (t 11) (.const (.val (.int .u8 1)))),
 m 12 13] [13])
 (d 12
 (s (r [
 m 14 0,
 f 15 F.q1d [(t 14)],
 m 5 15] [14,15])
 (s (s (r [
 m 16 5,
 v 17 (.bin .rem T.uint64 (t 16) (.const (.val (.int .u64 2)))),
 v 18 (.bin .eql T.uint64 (t 17) (.const (.val (.int .u64 1))))] [16,17])
 (d 18
 (s (r [
 m 19 5,
 v 20 (.bin .quo T.uint64 (t 19) (.const (.val (.int .u64 2)))),
 v 21 (.toInt .i64 (t 20)),
 v 22 (.un .neg (t 21)),
 v 23 (.bin .sub T.int (t 22) (c 1)),
 ⟨some 24,none,.val (.build [(.int 0),(.int 0),(.val (.string ⟨#[]⟩)),.nil] [(0,1,(c 1)),(1,1,(t 23))])⟩,
 y 4 4 24] [19,20,21,22,23,24])
 .ret)
 .skip))
 (s (r [
 m 25 5,
 v 26 (.bin .quo T.uint64 (t 25) (.const (.val (.int .u64 2)))),
 v 27 (.toInt .i64 (t 26)),
 ⟨some 28,none,.val (.build [(.int 0),(.int 0),(.val (.string ⟨#[]⟩)),.nil] [(0,1,(c 1)),(1,1,(t 27))])⟩,
 y 4 4 28] [25,26,27,28])
 .ret)))
 (s (r [
 v 30 (.bin .eql T.uint8 (t 11) (.const (.val (.int .u8 2)))),
 m 29 30] [30])
 (d 29
 (s (r [
 m 31 0,
 f 32 F.q1d [(t 31)],
 m 6 32] [31,32])
 (s (s (.draw false [
 e (m 33 0),
 e (v 34 (.nilCheck (t 33))),
 e (g 35 2 34),
 e (l 36 35),
 e (m 37 36),
 e (z 38 37 (M 6)),
 e (z 39 37 (M 0)),
 e (z 40 37 (.nilCheck (t 39))),
 e (z 41 37 (G 0 40)),
 e (z 42 37 (D 41)),
 e (z 43 37 (n 42)),
 e (z 44 37 (M 0)),
 e (z 45 37 (.nilCheck (t 44))),
 e (z 46 37 (G 1 45)),
 e (z 47 37 (D 46)),
 e (z 48 37 (.bin .sub T.int (t 43) (t 47))),
 e (z 49 37 (.toInt .u64 (t 48))),
 e (z 50 37 (.bin .gtr T.uint64 (t 38) (t 49))),
 e (v 51 (j 37 50))] [33,34,35,36,37,38,39,40,41,42,43,44,45,46,47,48,49,50])
 (d 51
 (s (r [
 m 52 0,
 v 53 (.nilCheck (t 52)),
 g 54 2 53,
 ⟨none,none,.store 1 (t 54) (.const (.bool true))⟩] [52,53,54])
 (s (r [
 ⟨some 55,none,.val (.build [(.int 0),(.int 0),(.val (.string ⟨#[]⟩)),.nil] [])⟩,
 y 4 4 55] [55])
 .ret))
 .skip))
 (s (r [
 m 56 0,
 m 57 0,
 v 58 (.nilCheck (t 57)),
 g 59 1 58,
 l 60 59,
 m 61 6,
 v 62 (.toInt .i64 (t 61)),
 v 63 (.bin .add T.int (t 60) (t 62)),
 v 64 (.nilCheck (t 56)),
 g 65 1 64,
 y 1 65 63] [56,57,58,59,60,61,62,63,64,65])
 (s (.draw false [
 e (m 66 0),
 e (v 67 (.nilCheck (t 66))),
 e (g 68 0 67),
 e (l 69 68),
 e (m 70 0),
 e (v 71 (.nilCheck (t 70))),
 e (g 72 1 71),
 e (l 73 72),
 e (m 74 6),
 e (v 75 (.toInt .i64 (t 74))),
 e (v 76 (.bin .sub T.int (t 73) (t 75))),
 e (m 77 0),
 e (v 78 (.nilCheck (t 77))),
 e (g 79 1 78),
 e (l 80 79),
 e (v 81 (.slice 1 (t 69) (some (t 76)) (some (t 80)) none)),
 e (v 82 (.strOf (t 81))),
 (.early,⟨some 83,none,.val (.build [(.int 0),(.int 0),(.val (.string ⟨#[]⟩)),.nil] [(0,1,(c 2)),(2,1,(t 82))])⟩),
 (.last,y 4 4 83)] [66,67,68,69,70,71,72,73,74,75,76,77,78,79,80,81,82,83])
 .ret))))
 (s (r [
 v 85 (.bin .eql T.uint8 (t 11) (.const (.val (.int .u8 3)))),
 m 84 85] [85])
 (d 84
 (s (r [
 m 86 0,
 f 87 F.q1d [(t 86)],
 m 7 87] [86,87])
 (s (s (.draw false [
 e (m 88 0),
 e (v 89 (.nilCheck (t 88))),
 e (g 90 2 89),
 e (l 91 90),
 e (m 92 91),
 e (z 93 92 (M 7)),
 e (z 94 92 (M 0)),
 e (z 95 92 (.nilCheck (t 94))),
 e (z 96 92 (G 0 95)),
 e (z 97 92 (D 96)),
 e (z 98 92 (n 97)),
 e (z 99 92 (M 0)),
 e (z 100 92 (.nilCheck (t 99))),
 e (z 101 92 (G 1 100)),
 e (z 102 92 (D 101)),
 e (z 103 92 (.bin .sub T.int (t 98) (t 102))),
 e (z 104 92 (.toInt .u64 (t 103))),
 e (z 105 92 (.bin .gtr T.uint64 (t 93) (t 104))),
 e (v 106 (j 92 105)),
 e (m 107 106),
 e (z 108 107 (M 1)),
 e (z 109 107 (.bin .eql T.int (t 108) (c 16))),
 e (v 110 (j 107 109))] [88,89,90,91,92,93,94,95,96,97,98,99,100,101,102,103,104,105,106,107,108,109])
 (d 110
 (s (r [
 m 111 0,
 v 112 (.nilCheck (t 111)),
 g 113 2 112,
 ⟨none,none,.store 1 (t 113) (.const (.bool true))⟩] [111,112,113])
 (s (r [
 ⟨some 114,none,.val (.build [(.int 0),(.int 0),(.val (.string ⟨#[]⟩)),.nil] [])⟩,
 y 4 4 114] [114])
 .ret))
 .skip))
 (s (r [
 ⟨some 115,none,.val (.build [(.int 0),(.int 0),(.val (.string ⟨#[]⟩)),.nil] [(0,1,(c 3))])⟩,
 ⟨some 8,none,.alloc T.apiValue [(.int 0),(.int 0),(.val (.string ⟨#[]⟩)),.nil]⟩,
 y 4 8 115] [115])
 (s (s (r [
 v 9 (.mv (.const (.val (.int .u64 0))))] [])
 (.block 1 (.loop (s (s (r [
 m 116 9,
 m 117 7,
 v 118 (.bin .lss T.uint64 (t 116) (t 117)),
 m 119 118,
 w 120 119 (M 0),
 w 121 119 (.nilCheck (t 120)),
 w 122 119 (G 2 121),
 w 123 119 (D 122),
 w 124 119 (N 123),
 v 125 (k 119 124)] [116,117,118,119,120,121,122,123,124])
 (d 125
 .skip
 (.exit 1)))
 (s (.block 2 (.draw true [
 a (g 128 3 8),
 a (l 129 128),
 e (m 130 0),
 e (m 131 1),
 e (v 132 (p 131 1)),
 h (f 133 F.q0r [(t 130),(t 132)]),
 (.late,⟨some 134,none,.val (.buildSlice T.apiValue 1 [(.int 0),(.int 0),(.val (.string ⟨#[]⟩)),.nil] [(0,4,(t 133))])⟩),
 h (⟨some 135,none,.append T.apiValue 56 4 (t 129) (t 134)⟩),
 a (g 136 3 8),
 (.last,y 1 136 135)] [128,129,130,131,132,133,134,135,136]))
 (r [
 m 126 9,
 v 127 (.bin .add T.uint64 (t 126) (.const (.val (.int .u64 1)))),
 m 9 127] [126,127]))))))
 (s (r [
 L 137 4 8,
 y 4 4 137] [137])
 .ret)))))
 .skip))))))))
 (s (r [
 m 138 0,
 v 139 (.nilCheck (t 138)),
 g 140 2 139,
 ⟨none,none,.store 1 (t 140) (.const (.bool true))⟩] [138,139,140])
 (s (r [
 ⟨some 141,none,.val (.build [(.int 0),(.int 0),(.val (.string ⟨#[]⟩)),.nil] [])⟩,
 y 4 4 141] [141])
 .ret))))⟩
theorem H.q0r:Has P F.q0r C.q0r:=⟨Tryz.f158,Tryz.func158,by kernel_rfl,by kernel_rfl⟩
noncomputable def C.q0k:MFunc:=⟨53,4,[],
 (s (r [
 m 10 1,
 v 11 (p 10 1),
 m 8 11] [10,11])
 (.block 0 (.loop (s (s (r [
 m 12 8,
 m 13 2,
 v 14 (A 12 13)] [12,13])
 (d 14
 .skip
 (.exit 0)))
 (s (.block 1 (s (r [
 m 17 8,
 m 9 17] [17])
 (.block 2 (.loop (s (s (.draw true [
 e (m 18 9),
 e (m 19 1),
 e (v 20 (.bin .gtr T.int (t 18) (t 19))),
 e (m 21 20),
 e (w 22 21 (M 3)),
 e (w 23 21 (M 0)),
 e (w 24 21 (M 9)),
 e (w 25 21 (I 9 23 24)),
 e (w 26 21 (E 9 25)),
 e (w 27 21 (M 0)),
 e (w 28 21 (M 9)),
 e (w 29 21 (.bin .sub T.int (t 28) (c 1))),
 e (w 30 21 (I 9 27 29)),
 e (w 31 21 (E 9 30)),
 h (⟨some 32,some (21,true),.call (t 22) [(t 26),(t 31)]⟩),
 a (w 33 21 (.bin .lss T.int (t 32) (c 0))),
 a (v 34 (k 21 33))] [18,19,20,21,22,23,24,25,26,27,28,29,30,31,32,33])
 (d 34
 .skip
 (.exit 2)))
 (s (.block 3 (.draw true [
 e (m 37 0),
 e (m 38 9),
 a (m 39 0),
 a (m 40 9),
 a (v 41 (.bin .sub T.int (t 40) (c 1))),
 e (m 42 0),
 e (m 43 9),
 e (v 44 (.bin .sub T.int (t 43) (c 1))),
 e (v 45 (I 9 42 44)),
 e (L 46 9 45),
 e (m 47 0),
 e (m 48 9),
 e (v 49 (I 9 47 48)),
 e (L 50 9 49),
 e (v 51 (I 9 37 38)),
 (.last,y 9 51 46),
 a (v 52 (I 9 39 41)),
 (.last,y 9 52 50)] [37,38,39,40,41,42,43,44,45,46,47,48,49,50,51,52]))
 (r [
 m 35 9,
 v 36 (.bin .sub T.int (t 35) (c 1)),
 m 9 36] [35,36])))))))
 (r [
 m 15 8,
 v 16 (p 15 1),
 m 8 16] [15,16]))))))⟩
theorem H.q0k:Has P F.q0k C.q0k:=⟨Tryz.f160,Tryz.func160,by kernel_rfl,by kernel_rfl⟩
noncomputable def C.q0c:MFunc:=⟨220,5,[],
 (s (s (r [
 m 25 2,
 m 26 1,
 v 27 (.bin .sub T.int (t 25) (t 26)),
 v 28 (.bin .eql T.int (t 27) (c 1))] [25,26,27])
 (d 28
 (s (r [
 m 29 2,
 m 10 29] [29])
 (s (r [
 m 30 3,
 m 11 30] [30])
 (s (.block 0 (.loop (s (s (r [
 m 31 10,
 m 32 11,
 v 33 (A 31 32)] [31,32])
 (d 33
 .skip
 (.exit 0)))
 (.block 1 (s (r [
 m 34 10,
 m 35 11,
 v 36 (.bin .add T.int (t 34) (t 35)),
 v 37 (.toInt .u64 (t 36)),
 v 38 (.bin .shr T.uint (t 37) (.const (.val (.int .u64 1)))),
 v 39 (.toInt .i64 (t 38)),
 m 12 39] [34,35,36,37,38,39])
 (s (.draw true [
 e (m 40 4),
 e (m 41 0),
 e (m 42 12),
 e (v 43 (I 9 41 42)),
 e (L 44 9 43),
 e (m 45 0),
 e (m 46 1),
 e (v 47 (I 9 45 46)),
 e (L 48 9 47),
 h (⟨some 49,none,.call (t 40) [(t 44),(t 48)]⟩),
 a (v 50 (.bin .lss T.int (t 49) (c 0)))] [40,41,42,43,44,45,46,47,48,49])
 (d 50
 (r [
 m 51 12,
 v 52 (p 51 1),
 m 10 52] [51,52])
 (r [
 m 53 12,
 m 11 53] [53]))))))))
 (s (s (r [
 m 54 1,
 m 13 54] [54])
 (.block 2 (.loop (s (s (r [
 m 55 13,
 m 56 10,
 v 57 (.bin .sub T.int (t 56) (c 1)),
 v 58 (A 55 57)] [55,56,57])
 (d 58
 .skip
 (.exit 2)))
 (s (.block 3 (.draw true [
 e (m 61 0),
 e (m 62 13),
 a (m 63 0),
 a (m 64 13),
 a (v 65 (p 64 1)),
 e (m 66 0),
 e (m 67 13),
 e (v 68 (p 67 1)),
 e (v 69 (I 9 66 68)),
 e (L 70 9 69),
 e (m 71 0),
 e (m 72 13),
 e (v 73 (I 9 71 72)),
 e (L 74 9 73),
 e (v 75 (I 9 61 62)),
 (.last,y 9 75 70),
 a (v 76 (I 9 63 65)),
 (.last,y 9 76 74)] [61,62,63,64,65,66,67,68,69,70,71,72,73,74,75,76]))
 (r [
 m 59 13,
 v 60 (p 59 1),
 m 13 60] [59,60]))))))
 .ret))))
 .skip))
 (s (s (r [
 m 77 3,
 m 78 2,
 v 79 (.bin .sub T.int (t 77) (t 78)),
 v 80 (.bin .eql T.int (t 79) (c 1))] [77,78,79])
 (d 80
 (s (r [
 m 81 1,
 m 14 81] [81])
 (s (r [
 m 82 2,
 m 15 82] [82])
 (s (.block 4 (.loop (s (s (r [
 m 83 14,
 m 84 15,
 v 85 (A 83 84)] [83,84])
 (d 85
 .skip
 (.exit 4)))
 (.block 5 (s (r [
 m 86 14,
 m 87 15,
 v 88 (.bin .add T.int (t 86) (t 87)),
 v 89 (.toInt .u64 (t 88)),
 v 90 (.bin .shr T.uint (t 89) (.const (.val (.int .u64 1)))),
 v 91 (.toInt .i64 (t 90)),
 m 16 91] [86,87,88,89,90,91])
 (s (.draw true [
 e (m 92 4),
 e (m 93 0),
 e (m 94 2),
 e (v 95 (I 9 93 94)),
 e (L 96 9 95),
 e (m 97 0),
 e (m 98 16),
 e (v 99 (I 9 97 98)),
 e (L 100 9 99),
 h (⟨some 101,none,.call (t 92) [(t 96),(t 100)]⟩),
 a (v 102 (.bin .lss T.int (t 101) (c 0))),
 a (v 103 (N 102))] [92,93,94,95,96,97,98,99,100,101,102])
 (d 103
 (r [
 m 104 16,
 v 105 (p 104 1),
 m 14 105] [104,105])
 (r [
 m 106 16,
 m 15 106] [106]))))))))
 (s (s (r [
 m 107 2,
 m 17 107] [107])
 (.block 6 (.loop (s (s (r [
 m 108 17,
 m 109 14,
 v 110 (.bin .gtr T.int (t 108) (t 109))] [108,109])
 (d 110
 .skip
 (.exit 6)))
 (s (.block 7 (.draw true [
 e (m 113 0),
 e (m 114 17),
 a (m 115 0),
 a (m 116 17),
 a (v 117 (.bin .sub T.int (t 116) (c 1))),
 e (m 118 0),
 e (m 119 17),
 e (v 120 (.bin .sub T.int (t 119) (c 1))),
 e (v 121 (I 9 118 120)),
 e (L 122 9 121),
 e (m 123 0),
 e (m 124 17),
 e (v 125 (I 9 123 124)),
 e (L 126 9 125),
 e (v 127 (I 9 113 114)),
 (.last,y 9 127 122),
 a (v 128 (I 9 115 117)),
 (.last,y 9 128 126)] [113,114,115,116,117,118,119,120,121,122,123,124,125,126,127,128]))
 (r [
 m 111 17,
 v 112 (.bin .sub T.int (t 111) (c 1)),
 m 17 112] [111,112]))))))
 .ret))))
 .skip))
 (s (r [
 m 129 1,
 m 130 3,
 v 131 (.bin .add T.int (t 129) (t 130)),
 v 132 (.toInt .u64 (t 131)),
 v 133 (.bin .shr T.uint (t 132) (.const (.val (.int .u64 1)))),
 v 134 (.toInt .i64 (t 133)),
 m 18 134] [129,130,131,132,133,134])
 (s (r [
 m 135 18,
 m 136 2,
 v 137 (.bin .add T.int (t 135) (t 136)),
 m 19 137] [135,136,137])
 (s (r [
 i 20 0,
 i 21 0] [])
 (s (s (r [
 m 138 2,
 m 139 18,
 v 140 (.bin .gtr T.int (t 138) (t 139))] [138,139])
 (d 140
 (s (r [
 m 141 19,
 m 142 3,
 v 143 (.bin .sub T.int (t 141) (t 142)),
 m 20 143] [141,142,143])
 (r [
 m 144 18,
 m 21 144] [144]))
 (s (r [
 m 145 1,
 m 20 145] [145])
 (r [
 m 146 2,
 m 21 146] [146]))))
 (s (r [
 m 147 19,
 v 148 (.bin .sub T.int (t 147) (c 1)),
 m 22 148] [147,148])
 (s (.block 8 (.loop (s (s (r [
 m 149 20,
 m 150 21,
 v 151 (A 149 150)] [149,150])
 (d 151
 .skip
 (.exit 8)))
 (.block 9 (s (r [
 m 152 20,
 m 153 21,
 v 154 (.bin .add T.int (t 152) (t 153)),
 v 155 (.toInt .u64 (t 154)),
 v 156 (.bin .shr T.uint (t 155) (.const (.val (.int .u64 1)))),
 v 157 (.toInt .i64 (t 156)),
 m 23 157] [152,153,154,155,156,157])
 (s (.draw true [
 e (m 158 4),
 e (m 159 0),
 e (m 160 22),
 e (m 161 23),
 e (v 162 (.bin .sub T.int (t 160) (t 161))),
 e (v 163 (I 9 159 162)),
 e (L 164 9 163),
 e (m 165 0),
 e (m 166 23),
 e (v 167 (I 9 165 166)),
 e (L 168 9 167),
 h (⟨some 169,none,.call (t 158) [(t 164),(t 168)]⟩),
 a (v 170 (.bin .lss T.int (t 169) (c 0))),
 a (v 171 (N 170))] [158,159,160,161,162,163,164,165,166,167,168,169,170])
 (d 171
 (r [
 m 172 23,
 v 173 (p 172 1),
 m 20 173] [172,173])
 (r [
 m 174 23,
 m 21 174] [174]))))))))
 (s (r [
 m 175 19,
 m 176 20,
 v 177 (.bin .sub T.int (t 175) (t 176)),
 m 24 177] [175,176,177])
 (s (s (r [
 m 178 20,
 m 179 2,
 v 180 (A 178 179),
 m 181 180,
 w 182 181 (M 2),
 w 183 181 (M 24),
 w 184 181 (A 182 183),
 v 185 (k 181 184)] [178,179,180,181,182,183,184])
 (d 185
 (r [
 m 186 0,
 m 187 20,
 m 188 2,
 m 189 24,
 m 190 4,
 f 191 F.q1a [(t 186),(t 187),(t 188),(t 189),(t 190)]] [186,187,188,189,190,191])
 .skip))
 (s (s (r [
 m 192 1,
 m 193 20,
 v 194 (A 192 193),
 m 195 194,
 w 196 195 (M 20),
 w 197 195 (M 18),
 w 198 195 (A 196 197),
 v 199 (k 195 198)] [192,193,194,195,196,197,198])
 (d 199
 (r [
 m 200 0,
 m 201 1,
 m 202 20,
 m 203 18,
 m 204 4,
 f 205 F.q0c [(t 200),(t 201),(t 202),(t 203),(t 204)]] [200,201,202,203,204,205])
 .skip))
 (s (r [
 m 206 18,
 m 207 24,
 v 208 (A 206 207),
 m 209 208,
 w 210 209 (M 24),
 w 211 209 (M 3),
 w 212 209 (A 210 211),
 v 213 (k 209 212)] [206,207,208,209,210,211,212])
 (d 213
 (r [
 m 214 0,
 m 215 18,
 m 216 24,
 m 217 3,
 m 218 4,
 f 219 F.q0c [(t 214),(t 215),(t 216),(t 217),(t 218)]] [214,215,216,217,218,219])
 .skip)))))))))))))⟩
theorem H.q0c:Has P F.q0c C.q0c:=⟨Tryz.f161,Tryz.func161,by kernel_rfl,by kernel_rfl⟩
noncomputable def C.q0f:MFunc:=⟨53,4,[],
 (s (r [
 m 10 1,
 v 11 (p 10 1),
 m 8 11] [10,11])
 (.block 0 (.loop (s (s (r [
 m 12 8,
 m 13 2,
 v 14 (A 12 13)] [12,13])
 (d 14
 .skip
 (.exit 0)))
 (s (.block 1 (s (r [
 m 17 8,
 m 9 17] [17])
 (.block 2 (.loop (s (s (.draw true [
 e (m 18 9),
 e (m 19 1),
 e (v 20 (.bin .gtr T.int (t 18) (t 19))),
 e (m 21 20),
 e (w 22 21 (M 3)),
 e (w 23 21 (M 0)),
 e (w 24 21 (M 9)),
 e (w 25 21 (I 14 23 24)),
 e (w 26 21 (E 14 25)),
 e (w 27 21 (M 0)),
 e (w 28 21 (M 9)),
 e (w 29 21 (.bin .sub T.int (t 28) (c 1))),
 e (w 30 21 (I 14 27 29)),
 e (w 31 21 (E 14 30)),
 h (⟨some 32,some (21,true),.call (t 22) [(t 26),(t 31)]⟩),
 a (w 33 21 (.bin .lss T.int (t 32) (c 0))),
 a (v 34 (k 21 33))] [18,19,20,21,22,23,24,25,26,27,28,29,30,31,32,33])
 (d 34
 .skip
 (.exit 2)))
 (s (.block 3 (.draw true [
 e (m 37 0),
 e (m 38 9),
 a (m 39 0),
 a (m 40 9),
 a (v 41 (.bin .sub T.int (t 40) (c 1))),
 e (m 42 0),
 e (m 43 9),
 e (v 44 (.bin .sub T.int (t 43) (c 1))),
 e (v 45 (I 14 42 44)),
 e (L 46 14 45),
 e (m 47 0),
 e (m 48 9),
 e (v 49 (I 14 47 48)),
 e (L 50 14 49),
 e (v 51 (I 14 37 38)),
 (.last,y 14 51 46),
 a (v 52 (I 14 39 41)),
 (.last,y 14 52 50)] [37,38,39,40,41,42,43,44,45,46,47,48,49,50,51,52]))
 (r [
 m 35 9,
 v 36 (.bin .sub T.int (t 35) (c 1)),
 m 9 36] [35,36])))))))
 (r [
 m 15 8,
 v 16 (p 15 1),
 m 8 16] [15,16]))))))⟩
theorem H.q0f:Has P F.q0f C.q0f:=⟨Tryz.f162,Tryz.func162,by kernel_rfl,by kernel_rfl⟩
noncomputable def C.q0a:MFunc:=⟨220,5,[],
 (s (s (r [
 m 25 2,
 m 26 1,
 v 27 (.bin .sub T.int (t 25) (t 26)),
 v 28 (.bin .eql T.int (t 27) (c 1))] [25,26,27])
 (d 28
 (s (r [
 m 29 2,
 m 10 29] [29])
 (s (r [
 m 30 3,
 m 11 30] [30])
 (s (.block 0 (.loop (s (s (r [
 m 31 10,
 m 32 11,
 v 33 (A 31 32)] [31,32])
 (d 33
 .skip
 (.exit 0)))
 (.block 1 (s (r [
 m 34 10,
 m 35 11,
 v 36 (.bin .add T.int (t 34) (t 35)),
 v 37 (.toInt .u64 (t 36)),
 v 38 (.bin .shr T.uint (t 37) (.const (.val (.int .u64 1)))),
 v 39 (.toInt .i64 (t 38)),
 m 12 39] [34,35,36,37,38,39])
 (s (.draw true [
 e (m 40 4),
 e (m 41 0),
 e (m 42 12),
 e (v 43 (I 14 41 42)),
 e (L 44 14 43),
 e (m 45 0),
 e (m 46 1),
 e (v 47 (I 14 45 46)),
 e (L 48 14 47),
 h (⟨some 49,none,.call (t 40) [(t 44),(t 48)]⟩),
 a (v 50 (.bin .lss T.int (t 49) (c 0)))] [40,41,42,43,44,45,46,47,48,49])
 (d 50
 (r [
 m 51 12,
 v 52 (p 51 1),
 m 10 52] [51,52])
 (r [
 m 53 12,
 m 11 53] [53]))))))))
 (s (s (r [
 m 54 1,
 m 13 54] [54])
 (.block 2 (.loop (s (s (r [
 m 55 13,
 m 56 10,
 v 57 (.bin .sub T.int (t 56) (c 1)),
 v 58 (A 55 57)] [55,56,57])
 (d 58
 .skip
 (.exit 2)))
 (s (.block 3 (.draw true [
 e (m 61 0),
 e (m 62 13),
 a (m 63 0),
 a (m 64 13),
 a (v 65 (p 64 1)),
 e (m 66 0),
 e (m 67 13),
 e (v 68 (p 67 1)),
 e (v 69 (I 14 66 68)),
 e (L 70 14 69),
 e (m 71 0),
 e (m 72 13),
 e (v 73 (I 14 71 72)),
 e (L 74 14 73),
 e (v 75 (I 14 61 62)),
 (.last,y 14 75 70),
 a (v 76 (I 14 63 65)),
 (.last,y 14 76 74)] [61,62,63,64,65,66,67,68,69,70,71,72,73,74,75,76]))
 (r [
 m 59 13,
 v 60 (p 59 1),
 m 13 60] [59,60]))))))
 .ret))))
 .skip))
 (s (s (r [
 m 77 3,
 m 78 2,
 v 79 (.bin .sub T.int (t 77) (t 78)),
 v 80 (.bin .eql T.int (t 79) (c 1))] [77,78,79])
 (d 80
 (s (r [
 m 81 1,
 m 14 81] [81])
 (s (r [
 m 82 2,
 m 15 82] [82])
 (s (.block 4 (.loop (s (s (r [
 m 83 14,
 m 84 15,
 v 85 (A 83 84)] [83,84])
 (d 85
 .skip
 (.exit 4)))
 (.block 5 (s (r [
 m 86 14,
 m 87 15,
 v 88 (.bin .add T.int (t 86) (t 87)),
 v 89 (.toInt .u64 (t 88)),
 v 90 (.bin .shr T.uint (t 89) (.const (.val (.int .u64 1)))),
 v 91 (.toInt .i64 (t 90)),
 m 16 91] [86,87,88,89,90,91])
 (s (.draw true [
 e (m 92 4),
 e (m 93 0),
 e (m 94 2),
 e (v 95 (I 14 93 94)),
 e (L 96 14 95),
 e (m 97 0),
 e (m 98 16),
 e (v 99 (I 14 97 98)),
 e (L 100 14 99),
 h (⟨some 101,none,.call (t 92) [(t 96),(t 100)]⟩),
 a (v 102 (.bin .lss T.int (t 101) (c 0))),
 a (v 103 (N 102))] [92,93,94,95,96,97,98,99,100,101,102])
 (d 103
 (r [
 m 104 16,
 v 105 (p 104 1),
 m 14 105] [104,105])
 (r [
 m 106 16,
 m 15 106] [106]))))))))
 (s (s (r [
 m 107 2,
 m 17 107] [107])
 (.block 6 (.loop (s (s (r [
 m 108 17,
 m 109 14,
 v 110 (.bin .gtr T.int (t 108) (t 109))] [108,109])
 (d 110
 .skip
 (.exit 6)))
 (s (.block 7 (.draw true [
 e (m 113 0),
 e (m 114 17),
 a (m 115 0),
 a (m 116 17),
 a (v 117 (.bin .sub T.int (t 116) (c 1))),
 e (m 118 0),
 e (m 119 17),
 e (v 120 (.bin .sub T.int (t 119) (c 1))),
 e (v 121 (I 14 118 120)),
 e (L 122 14 121),
 e (m 123 0),
 e (m 124 17),
 e (v 125 (I 14 123 124)),
 e (L 126 14 125),
 e (v 127 (I 14 113 114)),
 (.last,y 14 127 122),
 a (v 128 (I 14 115 117)),
 (.last,y 14 128 126)] [113,114,115,116,117,118,119,120,121,122,123,124,125,126,127,128]))
 (r [
 m 111 17,
 v 112 (.bin .sub T.int (t 111) (c 1)),
 m 17 112] [111,112]))))))
 .ret))))
 .skip))
 (s (r [
 m 129 1,
 m 130 3,
 v 131 (.bin .add T.int (t 129) (t 130)),
 v 132 (.toInt .u64 (t 131)),
 v 133 (.bin .shr T.uint (t 132) (.const (.val (.int .u64 1)))),
 v 134 (.toInt .i64 (t 133)),
 m 18 134] [129,130,131,132,133,134])
 (s (r [
 m 135 18,
 m 136 2,
 v 137 (.bin .add T.int (t 135) (t 136)),
 m 19 137] [135,136,137])
 (s (r [
 i 20 0,
 i 21 0] [])
 (s (s (r [
 m 138 2,
 m 139 18,
 v 140 (.bin .gtr T.int (t 138) (t 139))] [138,139])
 (d 140
 (s (r [
 m 141 19,
 m 142 3,
 v 143 (.bin .sub T.int (t 141) (t 142)),
 m 20 143] [141,142,143])
 (r [
 m 144 18,
 m 21 144] [144]))
 (s (r [
 m 145 1,
 m 20 145] [145])
 (r [
 m 146 2,
 m 21 146] [146]))))
 (s (r [
 m 147 19,
 v 148 (.bin .sub T.int (t 147) (c 1)),
 m 22 148] [147,148])
 (s (.block 8 (.loop (s (s (r [
 m 149 20,
 m 150 21,
 v 151 (A 149 150)] [149,150])
 (d 151
 .skip
 (.exit 8)))
 (.block 9 (s (r [
 m 152 20,
 m 153 21,
 v 154 (.bin .add T.int (t 152) (t 153)),
 v 155 (.toInt .u64 (t 154)),
 v 156 (.bin .shr T.uint (t 155) (.const (.val (.int .u64 1)))),
 v 157 (.toInt .i64 (t 156)),
 m 23 157] [152,153,154,155,156,157])
 (s (.draw true [
 e (m 158 4),
 e (m 159 0),
 e (m 160 22),
 e (m 161 23),
 e (v 162 (.bin .sub T.int (t 160) (t 161))),
 e (v 163 (I 14 159 162)),
 e (L 164 14 163),
 e (m 165 0),
 e (m 166 23),
 e (v 167 (I 14 165 166)),
 e (L 168 14 167),
 h (⟨some 169,none,.call (t 158) [(t 164),(t 168)]⟩),
 a (v 170 (.bin .lss T.int (t 169) (c 0))),
 a (v 171 (N 170))] [158,159,160,161,162,163,164,165,166,167,168,169,170])
 (d 171
 (r [
 m 172 23,
 v 173 (p 172 1),
 m 20 173] [172,173])
 (r [
 m 174 23,
 m 21 174] [174]))))))))
 (s (r [
 m 175 19,
 m 176 20,
 v 177 (.bin .sub T.int (t 175) (t 176)),
 m 24 177] [175,176,177])
 (s (s (r [
 m 178 20,
 m 179 2,
 v 180 (A 178 179),
 m 181 180,
 w 182 181 (M 2),
 w 183 181 (M 24),
 w 184 181 (A 182 183),
 v 185 (k 181 184)] [178,179,180,181,182,183,184])
 (d 185
 (r [
 m 186 0,
 m 187 20,
 m 188 2,
 m 189 24,
 m 190 4,
 f 191 F.q02 [(t 186),(t 187),(t 188),(t 189),(t 190)]] [186,187,188,189,190,191])
 .skip))
 (s (s (r [
 m 192 1,
 m 193 20,
 v 194 (A 192 193),
 m 195 194,
 w 196 195 (M 20),
 w 197 195 (M 18),
 w 198 195 (A 196 197),
 v 199 (k 195 198)] [192,193,194,195,196,197,198])
 (d 199
 (r [
 m 200 0,
 m 201 1,
 m 202 20,
 m 203 18,
 m 204 4,
 f 205 F.q0a [(t 200),(t 201),(t 202),(t 203),(t 204)]] [200,201,202,203,204,205])
 .skip))
 (s (r [
 m 206 18,
 m 207 24,
 v 208 (A 206 207),
 m 209 208,
 w 210 209 (M 24),
 w 211 209 (M 3),
 w 212 209 (A 210 211),
 v 213 (k 209 212)] [206,207,208,209,210,211,212])
 (d 213
 (r [
 m 214 0,
 m 215 18,
 m 216 24,
 m 217 3,
 m 218 4,
 f 219 F.q0a [(t 214),(t 215),(t 216),(t 217),(t 218)]] [214,215,216,217,218,219])
 .skip)))))))))))))⟩
theorem H.q0a:Has P F.q0a C.q0a:=⟨Tryz.f163,Tryz.func163,by kernel_rfl,by kernel_rfl⟩
noncomputable def C.q4s:MFunc:=⟨16,1,[.tmp 2],
 (s (r [
 ⟨some 1,none,.box T.apiValue (t 0)⟩,
 i 2 0] [])
 (s (r [
 L 6 4 1,
 f 7 F.q2j [(t 6)],
 m 5 7,
 x 8 0 5,
 x 9 1 5,
 m 3 8,
 m 4 9] [6,7,5,8,9])
 (s (.block 0 (s (r [
 m 11 4,
 v 12 (N 11),
 m 10 12] [11,12])
 (d 10
 (s (r [
 i 2 1] [])
 .ret)
 (s (r [
 m 14 3,
 v 15 (.bin .gtr T.int (t 14) (c 16)),
 m 13 15] [14,15])
 (d 13
 (s (r [
 i 2 2] [])
 .ret)
 .skip)))))
 (s (r [
 i 2 0] [])
 .ret))))⟩
theorem H.q4s:Has P F.q4s C.q4s:=⟨Tryz.f164,Tryz.func164,by kernel_rfl,by kernel_rfl⟩
noncomputable def C.q4b:MFunc:=⟨18,0,[.tmp 0],
 (s (r [
 v 0 (.mv (.const (.val (.pointer none))))] [])
 (s (r [
 v 2 (.build [(.val .nilFunc),(.val .nilFunc),(.val .nilFunc),(.val .nilFunc)] []),
 ⟨some 3,none,.box T.q5e (t 2)⟩,
 ⟨some 1,none,.alloc T.codecwriter [(.val (.pointer none))]⟩,
 y 1 1 3] [2,3])
 (s (r [
 l 4 1,
 v 5 (.nilCheck (t 4)),
 v 6 (.indexArr 4 1 (t 5) (c 1)),
 g 7 0 6,
 ⟨none,none,.store 1 (t 7) (.const (.func (.func F.q2o) [] []))⟩] [4,5,6,7])
 (s (r [
 l 8 1,
 v 9 (.nilCheck (t 8)),
 v 10 (.indexArr 4 1 (t 9) (c 2)),
 g 11 0 10,
 ⟨none,none,.store 1 (t 11) (.const (.func (.func F.q4z) [] []))⟩] [8,9,10,11])
 (s (r [
 l 12 1,
 v 13 (.mkFunc (.func F.q2p) [] [(t 1)]),
 v 14 (.nilCheck (t 12)),
 v 15 (.indexArr 4 1 (t 14) (c 3)),
 g 16 0 15,
 y 1 16 13] [12,13,14,15,16])
 (s (r [
 l 17 1,
 m 0 17] [17])
 .ret))))))⟩
theorem H.q4b:Has P F.q4b C.q4b:=⟨Tryz.f165,Tryz.func165,by kernel_rfl,by kernel_rfl⟩
noncomputable def C.q05:MFunc:=⟨53,4,[],
 (s (r [
 m 10 1,
 v 11 (p 10 1),
 m 8 11] [10,11])
 (.block 0 (.loop (s (s (r [
 m 12 8,
 m 13 2,
 v 14 (A 12 13)] [12,13])
 (d 14
 .skip
 (.exit 0)))
 (s (.block 1 (s (r [
 m 17 8,
 m 9 17] [17])
 (.block 2 (.loop (s (s (.draw true [
 e (m 18 9),
 e (m 19 1),
 e (v 20 (.bin .gtr T.int (t 18) (t 19))),
 e (m 21 20),
 e (w 22 21 (M 3)),
 e (w 23 21 (M 0)),
 e (w 24 21 (M 9)),
 e (w 25 21 (I 24 23 24)),
 e (w 26 21 (E 24 25)),
 e (w 27 21 (M 0)),
 e (w 28 21 (M 9)),
 e (w 29 21 (.bin .sub T.int (t 28) (c 1))),
 e (w 30 21 (I 24 27 29)),
 e (w 31 21 (E 24 30)),
 h (⟨some 32,some (21,true),.call (t 22) [(t 26),(t 31)]⟩),
 a (w 33 21 (.bin .lss T.int (t 32) (c 0))),
 a (v 34 (k 21 33))] [18,19,20,21,22,23,24,25,26,27,28,29,30,31,32,33])
 (d 34
 .skip
 (.exit 2)))
 (s (.block 3 (.draw true [
 e (m 37 0),
 e (m 38 9),
 a (m 39 0),
 a (m 40 9),
 a (v 41 (.bin .sub T.int (t 40) (c 1))),
 e (m 42 0),
 e (m 43 9),
 e (v 44 (.bin .sub T.int (t 43) (c 1))),
 e (v 45 (I 24 42 44)),
 e (L 46 24 45),
 e (m 47 0),
 e (m 48 9),
 e (v 49 (I 24 47 48)),
 e (L 50 24 49),
 e (v 51 (I 24 37 38)),
 (.last,y 24 51 46),
 a (v 52 (I 24 39 41)),
 (.last,y 24 52 50)] [37,38,39,40,41,42,43,44,45,46,47,48,49,50,51,52]))
 (r [
 m 35 9,
 v 36 (.bin .sub T.int (t 35) (c 1)),
 m 9 36] [35,36])))))))
 (r [
 m 15 8,
 v 16 (p 15 1),
 m 8 16] [15,16]))))))⟩
theorem H.q05:Has P F.q05 C.q05:=⟨Tryz.f166,Tryz.func166,by kernel_rfl,by kernel_rfl⟩
noncomputable def C.q4c:MFunc:=⟨25,1,[.tmp 2],
 (s (r [
 i 2 0] [])
 (s (s (r [
 m 3 0,
 v 4 (.bin .geq T.uint64 (t 3) (.const (.val (.int .u64 4294967296))))] [3])
 (d 4
 (s (r [
 m 5 0,
 v 6 (.bin .shr T.uint64 (t 5) (.const (.val (.int .u64 32)))),
 m 0 6] [5,6])
 (r [
 i 2 32] []))
 .skip))
 (s (s (r [
 m 7 0,
 v 8 (.bin .geq T.uint64 (t 7) (.const (.val (.int .u64 65536))))] [7])
 (d 8
 (s (r [
 m 9 0,
 v 10 (.bin .shr T.uint64 (t 9) (.const (.val (.int .u64 16)))),
 m 0 10] [9,10])
 (r [
 m 11 2,
 v 12 (p 11 16),
 m 2 12] [11,12]))
 .skip))
 (s (s (r [
 m 13 0,
 v 14 (.bin .geq T.uint64 (t 13) (.const (.val (.int .u64 256))))] [13])
 (d 14
 (s (r [
 m 15 0,
 v 16 (.bin .shr T.uint64 (t 15) (.const (.val (.int .u64 8)))),
 m 0 16] [15,16])
 (r [
 m 17 2,
 v 18 (p 17 8),
 m 2 18] [17,18]))
 .skip))
 (s (r [
 m 19 2,
 m 20 0,
 v 21 (.toInt .u8 (t 20)),
 ⟨some 22,none,.val (.indexStr (.const (.val (.string ⟨#[0,1,2,2,3,3,3,3,4,4,4,4,4,4,4,4,5,5,5,5,5,5,5,5,5,5,5,5,5,5,5,5,6,6,6,6,6,6,6,6,6,6,6,6,6,6,6,6,6,6,6,6,6,6,6,6,6,6,6,6,6,6,6,6,7,7,7,7,7,7,7,7,7,7,7,7,7,7,7,7,7,7,7,7,7,7,7,7,7,7,7,7,7,7,7,7,7,7,7,7,7,7,7,7,7,7,7,7,7,7,7,7,7,7,7,7,7,7,7,7,7,7,7,7,7,7,7,7,8,8,8,8,8,8,8,8,8,8,8,8,8,8,8,8,8,8,8,8,8,8,8,8,8,8,8,8,8,8,8,8,8,8,8,8,8,8,8,8,8,8,8,8,8,8,8,8,8,8,8,8,8,8,8,8,8,8,8,8,8,8,8,8,8,8,8,8,8,8,8,8,8,8,8,8,8,8,8,8,8,8,8,8,8,8,8,8,8,8,8,8,8,8,8,8,8,8,8,8,8,8,8,8,8,8,8,8,8,8,8,8,8,8,8,8,8,8,8,8,8,8,8,8,8,8,8,8]⟩))) (t 21))⟩,
 v 23 (.toInt .i64 (t 22)),
 v 24 (.bin .add T.int (t 19) (t 23)),
 m 2 24] [19,20,21,22,23,24])
 .ret)))))⟩
theorem H.q4c:Has P F.q4c C.q4c:=⟨Tryz.f175,Tryz.func175,by kernel_rfl,by kernel_rfl⟩
noncomputable def C.q1o:MFunc:=⟨8,2,[.tmp 4],
 (s (r [
 i 4 0] [])
 (s (r [
 m 5 0,
 m 6 1,
 f 7 F.q4q [(t 5),(t 6)],
 m 4 7] [5,6,7])
 .ret))⟩
theorem H.q1o:Has P F.q1o C.q1o:=⟨Tryz.f176,Tryz.func176,by kernel_rfl,by kernel_rfl⟩
noncomputable def C.q1b:MFunc:=⟨15,3,[.tmp 6],
 (s (r [
 b 6 false] [])
 (s (r [
 m 7 0,
 m 8 1,
 v 9 (.bin .geq T.int (t 7) (t 8)),
 m 10 9,
 w 11 10 (M 0),
 w 12 10 (M 2),
 w 13 10 (.bin .leq T.int (t 11) (t 12)),
 v 14 (k 10 13),
 m 6 14] [7,8,9,10,11,12,13,14])
 .ret))⟩
theorem H.q1b:Has P F.q1b C.q1b:=⟨Tryz.f181,Tryz.func181,by kernel_rfl,by kernel_rfl⟩
noncomputable def C.q3o:MFunc:=⟨74,1,[.tmp 2],
 (s (r [
 ⟨some 1,none,.box T.apiDecision (t 0)⟩,
 b 2 false] [])
 (s (s (r [
 g 4 0 1,
 l 5 4,
 v 6 (.bin .lss T.int (t 5) (c 0)),
 m 7 6,
 z 8 7 (G 0 1),
 z 9 7 (D 8),
 z 10 7 (.bin .gtr T.int (t 9) (c 1048576)),
 v 11 (j 7 10),
 m 12 11,
 z 13 12 (G 1 1),
 z 14 12 (D 13),
 z 15 12 (.bin .lss T.int (t 14) (c 0)),
 v 16 (j 12 15),
 m 17 16,
 z 18 17 (G 1 1),
 z 19 17 (D 18),
 z 20 17 (.bin .geq T.int (t 19) (c 2097152)),
 v 21 (j 17 20)] [4,5,6,7,8,9,10,11,12,13,14,15,16,17,18,19,20])
 (d 21
 (s (r [
 b 2 false] [])
 .ret)
 .skip))
 (s (r [
 g 22 3 1,
 l 23 22,
 v 24 (.bin .geq T.int (t 23) (c 0)),
 m 25 24,
 w 26 25 (G 3 1),
 w 27 25 (D 26),
 w 28 25 (.bin .leq T.int (t 27) (c 1048576)),
 v 29 (k 25 28),
 m 30 29,
 w 31 30 (G 5 1),
 w 32 30 (E 9 31),
 w 33 30 (.build q3 []),
 w 34 30 (.eqAgg false [.int,.int,.int,.int,.int,.int,.int,.int,.int] (t 32) (t 33)),
 v 35 (k 30 34),
 m 3 35] [22,23,24,25,26,27,28,29,30,31,32,33,34,35])
 (s (s (r [
 g 36 2 1,
 l 37 36] [36])
 (.block 0 (s (r [
 v 39 (.bin .eql T.int (t 37) (c 1)),
 m 38 39] [39])
 (d 38
 (s (r [
 m 40 3,
 m 41 40,
 w 42 41 (G 4 1),
 w 43 41 (D 42),
 w 44 41 (.bin .eql T.int (t 43) (c 0)),
 v 45 (k 41 44),
 m 2 45] [40,41,42,43,44,45])
 .ret)
 (s (r [
 v 47 (.bin .eql T.int (t 37) (c 2)),
 m 46 47] [47])
 (d 46
 (s (r [
 m 48 3,
 m 49 48,
 w 50 49 (G 4 1),
 w 51 49 (D 50),
 w 52 49 (.bin .geq T.int (t 51) (c 0)),
 v 53 (k 49 52),
 m 54 53,
 w 55 54 (G 4 1),
 w 56 54 (D 55),
 w 57 54 (.bin .leq T.int (t 56) (c 1000)),
 v 58 (k 54 57),
 m 2 58] [48,49,50,51,52,53,54,55,56,57,58])
 .ret)
 (s (r [
 v 60 (.bin .eql T.int (t 37) (c 3)),
 m 59 60] [60])
 (d 59
 (s (r [
 g 61 3 1,
 l 62 61,
 v 63 (.bin .eql T.int (t 62) (c 0)),
 m 64 63,
 w 65 64 (G 4 1),
 w 66 64 (D 65),
 w 67 64 (.bin .eql T.int (t 66) (c 0)),
 v 68 (k 64 67),
 m 69 68,
 w 70 69 (G 5 1),
 w 71 69 (E 9 70),
 ⟨some 72,some (69,true),.call (.const (.func (.func F.q3p) [] [])) [(t 71)]⟩,
 v 73 (k 69 72),
 m 2 73] [61,62,63,64,65,66,67,68,69,70,71,72,73])
 .ret)
 .skip))))))))
 (s (r [
 b 2 false] [])
 .ret)))))⟩
theorem H.q3o:Has P F.q3o C.q3o:=⟨Tryz.f182,Tryz.func182,by kernel_rfl,by kernel_rfl⟩
noncomputable def C.q0m:MFunc:=⟨52,1,[.tmp 2],
 (s (r [
 ⟨some 1,none,.box T.apiValue (t 0)⟩,
 b 2 false] [])
 (s (s (r [
 g 4 0 1,
 l 5 4] [4])
 (.block 0 (s (r [
 v 7 (.bin .eql T.int (t 5) (c 1)),
 m 6 7] [7])
 (d 6
 (s (r [
 g 8 2 1,
 l 9 8,
 ⟨some 10,none,.val (.bin .eql T.string (t 9) (.const (.val (.string ⟨#[]⟩))))⟩,
 m 11 10,
 w 12 11 (G 3 1),
 w 13 11 (D 12),
 w 14 11 (n 13),
 w 15 11 (.bin .eql T.int (t 14) (c 0)),
 v 16 (k 11 15),
 m 2 16] [8,9,10,11,12,13,14,15,16])
 .ret)
 (s (r [
 v 18 (.bin .eql T.int (t 5) (c 2)),
 m 17 18] [18])
 (d 17
 (s (r [
 g 19 1 1,
 l 20 19,
 v 21 (.bin .eql T.int (t 20) (c 0)),
 m 22 21,
 w 23 22 (G 3 1),
 w 24 22 (D 23),
 w 25 22 (n 24),
 w 26 22 (.bin .eql T.int (t 25) (c 0)),
 v 27 (k 22 26),
 m 2 27] [19,20,21,22,23,24,25,26,27])
 .ret)
 (s (r [
 v 29 (.bin .eql T.int (t 5) (c 3)),
 m 28 29] [29])
 (d 28
 (s (s (r [
 i 3 0] [])
 (.block 1 (.loop (s (s (r [
 m 30 3,
 g 31 3 1,
 l 32 31,
 v 33 (n 32),
 v 34 (A 30 33)] [30,31,32,33])
 (d 34
 .skip
 (.exit 1)))
 (s (.block 2 (s (r [
 g 37 3 1,
 l 38 37,
 m 39 3,
 v 40 (I 4 38 39),
 L 41 4 40,
 f 42 F.q0m [(t 41)],
 v 43 (N 42)] [37,38,39,40,41,42])
 (d 43
 (s (r [
 b 2 false] [])
 .ret)
 .skip)))
 (r [
 m 35 3,
 v 36 (p 35 1),
 m 3 36] [35,36]))))))
 (s (r [
 g 44 1 1,
 l 45 44,
 v 46 (.bin .eql T.int (t 45) (c 0)),
 m 47 46,
 w 48 47 (G 2 1),
 w 49 47 (D 48),
 ⟨some 50,some (47,true),.val (.bin .eql T.string (t 49) (.const (.val (.string ⟨#[]⟩))))⟩,
 v 51 (k 47 50),
 m 2 51] [44,45,46,47,48,49,50,51])
 .ret))
 .skip))))))))
 (s (r [
 b 2 false] [])
 .ret)))⟩
theorem H.q0m:Has P F.q0m C.q0m:=⟨Tryz.f183,Tryz.func183,by kernel_rfl,by kernel_rfl⟩
noncomputable def C.q0q:MFunc:=⟨25,1,[.tmp 2],
 (s (r [
 ⟨some 1,none,.box T.apiValue (t 0)⟩,
 i 2 0] [])
 (s (s (r [
 g 5 0 1,
 l 6 5,
 v 7 (.bin .neq T.int (t 6) (c 3))] [5,6])
 (d 7
 (s (r [
 i 2 0] [])
 .ret)
 .skip))
 (s (r [
 i 3 0] [])
 (s (s (r [
 i 4 0] [])
 (.block 0 (.loop (s (s (r [
 m 8 4,
 g 9 3 1,
 l 10 9,
 v 11 (n 10),
 v 12 (A 8 11)] [8,9,10,11])
 (d 12
 .skip
 (.exit 0)))
 (s (.block 1 (r [
 m 15 3,
 g 16 3 1,
 l 17 16,
 m 18 4,
 v 19 (I 4 17 18),
 L 20 4 19,
 f 21 F.q0q [(t 20)],
 v 22 (.minmax true [(t 15),(t 21)]),
 m 3 22] [15,16,17,18,19,20,21,22]))
 (r [
 m 13 4,
 v 14 (p 13 1),
 m 4 14] [13,14]))))))
 (s (r [
 m 23 3,
 v 24 (p 23 1),
 m 2 24] [23,24])
 .ret)))))⟩
theorem H.q0q:Has P F.q0q C.q0q:=⟨Tryz.f184,Tryz.func184,by kernel_rfl,by kernel_rfl⟩
noncomputable def C.q1t:MFunc:=⟨17,1,[.tmp 2],
 (s (r [
 v 2 (.mv (.const .nil))] [])
 (s (s (r [
 m 3 0,
 v 4 (.bin .lss T.uint64 (t 3) (.const (.val (.int .u64 128))))] [3])
 (d 4
 (s (r [
 m 5 0,
 v 6 (.toInt .u8 (t 5)),
 v 7 (.buildSlice T.uint8 1 [(.val (.int .u8 0))] [(0,1,(t 6))]),
 m 2 7] [5,6,7])
 .ret)
 .skip))
 (s (r [
 m 8 0,
 v 9 (.bin .rem T.uint64 (t 8) (.const (.val (.int .u64 128)))),
 v 10 (.bin .add T.uint64 (t 9) (.const (.val (.int .u64 128)))),
 v 11 (.toInt .u8 (t 10)),
 v 12 (.buildSlice T.uint8 1 [(.val (.int .u8 0))] [(0,1,(t 11))]),
 m 13 0,
 v 14 (.bin .quo T.uint64 (t 13) (.const (.val (.int .u64 128)))),
 f 15 F.q1t [(t 14)],
 ⟨some 16,none,.append T.uint8 1 1 (t 12) (t 15)⟩,
 m 2 16] [8,9,10,11,12,13,14,15,16])
 .ret)))⟩
theorem H.q1t:Has P F.q1t C.q1t:=⟨Tryz.f185,Tryz.func185,by kernel_rfl,by kernel_rfl⟩
noncomputable def C.q11:MFunc:=⟨14,1,[.tmp 2],
 (s (r [
 v 2 (.mv (.const (.val (.int .u64 0))))] [])
 (s (s (r [
 m 3 0,
 v 4 (.bin .geq T.int (t 3) (c 0))] [3])
 (d 4
 (s (r [
 m 5 0,
 v 6 (.toInt .u64 (t 5)),
 v 7 (.bin .mul T.uint64 (.const (.val (.int .u64 2))) (t 6)),
 m 2 7] [5,6,7])
 .ret)
 .skip))
 (s (r [
 m 8 0,
 v 9 (p 8 1),
 v 10 (.un .neg (t 9)),
 v 11 (.toInt .u64 (t 10)),
 v 12 (.bin .mul T.uint64 (.const (.val (.int .u64 2))) (t 11)),
 v 13 (.bin .add T.uint64 (t 12) (.const (.val (.int .u64 1)))),
 m 2 13] [8,9,10,11,12,13])
 .ret)))⟩
theorem H.q11:Has P F.q11 C.q11:=⟨Tryz.f186,Tryz.func186,by kernel_rfl,by kernel_rfl⟩
noncomputable def C.q18:MFunc:=⟨19,2,[.tmp 4],
 (s (r [
 ⟨some 3,none,.box T.t2int (t 1)⟩,
 i 4 0] [])
 (s (s (r [
 m 6 0,
 v 7 (n 6),
 i 8 0] [6])
 (.block 0 (.loop (s (r [
 v 9 (A 8 7)] [])
 (s (d 9
 .skip
 (.exit 0))
 (s (.block 1 (s (r [
 m 10 8,
 m 5 10] [10])
 (s (.draw false [
 e (L 11 2 3),
 e (m 12 0),
 e (m 13 5),
 e (v 14 (I 2 12 13)),
 e (L 15 2 14),
 e (v 16 (.eqAgg false [.int,.int] (t 11) (t 15)))] [11,12,13,14,15])
 (d 16
 (s (r [
 m 17 5,
 m 4 17] [17])
 .ret)
 .skip))))
 (r [
 v 18 (p 8 1),
 m 8 18] [18])))))))
 (s (r [
 v 4 (.mv (.const (.int (-1))))] [])
 .ret)))⟩
theorem H.q18:Has P F.q18 C.q18:=⟨Tryz.f189,Tryz.func189,by kernel_rfl,by kernel_rfl⟩
noncomputable def C.q00:MFunc:=⟨32,2,[.tmp 4],
 (s (r [
 v 4 (.mv (.const .nil))] [])
 (s (r [
 m 6 0,
 m 7 1,
 m 8 0,
 v 9 (.nilCheck (t 8)),
 g 10 0 9,
 l 11 10,
 v 12 (n 11),
 v 13 (.bin .leq T.int (t 7) (t 12)),
 f 14 F.q04 [(t 6),(t 13)]] [6,7,8,9,10,11,12,13,14])
 (s (r [
 m 15 0,
 v 16 (.nilCheck (t 15)),
 g 17 0 16,
 l 18 17,
 m 19 1,
 m 20 1,
 v 21 (.slice 1 (t 18) none (some (t 19)) (some (t 20))),
 m 5 21] [15,16,17,18,19,20,21])
 (s (r [
 m 22 0,
 m 23 0,
 v 24 (.nilCheck (t 23)),
 g 25 0 24,
 l 26 25,
 m 27 1,
 v 28 (.slice 1 (t 26) (some (t 27)) none none),
 v 29 (.nilCheck (t 22)),
 g 30 0 29,
 y 1 30 28] [22,23,24,25,26,27,28,29,30])
 (s (r [
 m 31 5,
 m 4 31] [31])
 .ret)))))⟩
theorem H.q00:Has P F.q00 C.q00:=⟨Tryz.f190,Tryz.func190,by kernel_rfl,by kernel_rfl⟩
noncomputable def C.q4p:MFunc:=⟨11,1,[.tmp 2],
 (s (r [
 i 2 0] [])
 (s (r [
 m 3 0,
 v 4 (.bin .shr T.uint64 (t 3) (.const (.val (.int .u64 1)))),
 v 5 (.toInt .i64 (t 4)),
 m 6 0,
 v 7 (.bin .and T.uint64 (t 6) (.const (.val (.int .u64 1)))),
 v 8 (.toInt .i64 (t 7)),
 v 9 (.un .neg (t 8)),
 v 10 (.bin .xor T.int (t 5) (t 9)),
 m 2 10] [3,4,5,6,7,8,9,10])
 .ret))⟩
theorem H.q4p:Has P F.q4p C.q4p:=⟨Tryz.f191,Tryz.func191,by kernel_rfl,by kernel_rfl⟩
noncomputable def C.q2h:MFunc:=⟨38,1,[.tmp 2],
 (s (r [
 v 2 (.mv (.const (.val (.int .u64 0))))] [])
 (s (r [
 i 3 0] [])
 (.block 0 (.loop (s (.block 1 (s (r [
 m 7 0,
 f 8 F.q00 [(t 7),(c 1)],
 v 9 (.indexAddr 1 (t 8) (c 0)),
 l 10 9,
 m 4 10] [7,8,9,10])
 (s (r [
 m 11 0,
 m 12 3,
 v 13 (.bin .eql T.int (t 12) (c 0)),
 m 14 13,
 z 15 14 (M 4),
 z 16 14 (.bin .neq T.uint8 (t 15) (.const (.val (.int .u8 0)))),
 v 17 (j 14 16),
 m 18 17,
 w 19 18 (M 3),
 w 20 18 (.bin .lss T.int (t 19) (c 9)),
 w 21 18 (M 20),
 z 22 21 (M 4),
 z 23 21 (.bin .leq T.uint8 (t 22) (.const (.val (.int .u8 1)))),
 w 24 18 (j 21 23),
 v 25 (k 18 24),
 f 26 F.q04 [(t 11),(t 25)]] [11,12,13,14,15,16,17,18,19,20,21,22,23,24,25,26])
 (s (r [
 m 27 2,
 m 28 4,
 v 29 (.bin .and T.uint8 (t 28) (.const (.val (.int .u8 127)))),
 v 30 (.toInt .u64 (t 29)),
 m 31 3,
 v 32 (.bin .mul T.int (c 7) (t 31)),
 v 33 (.bin .shl T.uint64 (t 30) (t 32)),
 v 34 (.bin .or T.uint64 (t 27) (t 33)),
 m 2 34] [27,28,29,30,31,32,33,34])
 (s (r [
 m 35 4,
 v 36 (.bin .lss T.uint8 (t 35) (.const (.val (.int .u8 128))))] [35])
 (d 36
 (s (r [
 m 37 2,
 m 2 37] [37])
 .ret)
 .skip))))))
 (r [
 m 5 3,
 v 6 (p 5 1),
 m 3 6] [5,6]))))))⟩
theorem H.q2h:Has P F.q2h C.q2h:=⟨Tryz.f192,Tryz.func192,by kernel_rfl,by kernel_rfl⟩
noncomputable def C.q2i:MFunc:=⟨18,1,[.tmp 2],
 (s (r [
 i 2 0] [])
 (s (r [
 m 4 0,
 f 5 F.q2h [(t 4)],
 m 3 5] [4,5])
 (s (r [
 m 6 0,
 m 7 3,
 m 8 0,
 v 9 (.nilCheck (t 8)),
 g 10 0 9,
 l 11 10,
 v 12 (n 11),
 v 13 (.toInt .u64 (t 12)),
 v 14 (.bin .leq T.uint64 (t 7) (t 13)),
 f 15 F.q04 [(t 6),(t 14)]] [6,7,8,9,10,11,12,13,14,15])
 (s (r [
 m 16 3,
 v 17 (.toInt .i64 (t 16)),
 m 2 17] [16,17])
 .ret))))⟩
theorem H.q2i:Has P F.q2i C.q2i:=⟨Tryz.f193,Tryz.func193,by kernel_rfl,by kernel_rfl⟩
noncomputable def C.q2t:MFunc:=⟨27,2,[.tmp 4],
 (s (r [
 v 4 (.mv (.const .nil))] [])
 (s (s (r [
 m 5 1,
 v 6 (.bin .lss T.int (t 5) (c 0))] [5])
 (d 6
 (r [
 ⟨some 7,none,.val (.mkIface T.string (.const (.val (.string ⟨#[99,97,110,110,111,116,32,98,101,32,110,101,103,97,116,105,118,101]⟩))))⟩,
 ⟨none,none,.panic (t 7)⟩] [7])
 .skip))
 (s (s (r [
 m 8 1,
 m 9 0,
 v 10 (.cap (t 9)),
 m 11 0,
 v 12 (n 11),
 v 13 (.bin .sub T.int (t 10) (t 12)),
 v 14 (.bin .sub T.int (t 8) (t 13)),
 m 1 14] [8,9,10,11,12,13,14])
 (s (r [
 m 15 1,
 v 16 (.bin .gtr T.int (t 15) (c 0))] [15])
 (d 16
 (r [
 m 17 0,
 m 18 0,
 v 19 (.cap (t 18)),
 v 20 (.slice 1 (t 17) none (some (t 19)) none),
 m 21 1,
 ⟨some 22,none,.appendZ T.int_2 8 1 [(.val (.pointer none))] (t 20) (t 21)⟩,
 m 23 0,
 v 24 (n 23),
 v 25 (.slice 1 (t 22) none (some (t 24)) none),
 m 0 25] [17,18,19,20,21,22,23,24,25])
 .skip)))
 (s (r [
 m 26 0,
 m 4 26] [26])
 .ret))))⟩
theorem H.q2t:Has P F.q2t C.q2t:=⟨Tryz.f194,Tryz.func194,by kernel_rfl,by kernel_rfl⟩
noncomputable def C.q0v:MFunc:=⟨34,1,[.tmp 2],
 (s (r [
 v 2 (.mv (.const (.val (.int .u8 0))))] [])
 (s (s (.draw false [
 e (m 3 0),
 e (v 4 (.nilCheck (t 3))),
 e (g 5 1 4),
 e (l 6 5),
 e (m 7 0),
 e (v 8 (.nilCheck (t 7))),
 e (g 9 0 8),
 e (l 10 9),
 e (v 11 (n 10)),
 e (v 12 (.bin .geq T.int (t 6) (t 11)))] [3,4,5,6,7,8,9,10,11])
 (d 12
 (s (r [
 m 13 0,
 v 14 (.nilCheck (t 13)),
 g 15 2 14,
 ⟨none,none,.store 1 (t 15) (.const (.bool true))⟩] [13,14,15])
 (s (r [
 v 2 (.mv (.const (.val (.int .u8 0))))] [])
 .ret))
 .skip))
 (s (r [
 m 16 0,
 v 17 (.nilCheck (t 16)),
 g 18 1 17,
 l 19 18,
 v 20 (p 19 1),
 v 21 (.nilCheck (t 16)),
 g 22 1 21,
 y 1 22 20] [16,17,18,19,20,21,22])
 (s (.draw false [
 e (m 23 0),
 e (v 24 (.nilCheck (t 23))),
 e (g 25 0 24),
 e (l 26 25),
 e (m 27 0),
 e (v 28 (.nilCheck (t 27))),
 e (g 29 1 28),
 e (l 30 29),
 e (v 31 (.bin .sub T.int (t 30) (c 1))),
 e (v 32 (I 1 26 31)),
 e (l 33 32),
 e (m 2 33)] [23,24,25,26,27,28,29,30,31,32,33])
 .ret))))⟩
theorem H.q0v:Has P F.q0v C.q0v:=⟨Tryz.f195,Tryz.func195,by kernel_rfl,by kernel_rfl⟩
noncomputable def C.q1d:MFunc:=⟨43,1,[.tmp 2],
 (s (r [
 v 2 (.mv (.const (.val (.int .u64 0))))] [])
 (s (r [
 v 3 (.mv (.const (.val (.int .u64 0))))] [])
 (s (s (r [
 i 4 0] [])
 (.block 0 (.loop (s (s (r [
 m 6 0,
 v 7 (.nilCheck (t 6)),
 g 8 2 7,
 l 9 8,
 v 10 (N 9)] [6,7,8,9])
 (d 10
 .skip
 (.exit 0)))
 (s (.block 1 (s (r [
 m 13 0,
 f 14 F.q0v [(t 13)],
 m 5 14] [13,14])
 (s (s (r [
 m 15 4,
 v 16 (.bin .eql T.int (t 15) (c 9)),
 m 17 16,
 w 18 17 (M 5),
 w 19 17 (.bin .gtr T.uint8 (t 18) (.const (.val (.int .u8 1)))),
 v 20 (k 17 19),
 m 21 20,
 z 22 21 (M 4),
 z 23 21 (.bin .gtr T.int (t 22) (c 0)),
 z 24 21 (M 23),
 w 25 24 (M 5),
 w 26 24 (.bin .eql T.uint8 (t 25) (.const (.val (.int .u8 0)))),
 z 27 21 (k 24 26),
 v 28 (j 21 27)] [15,16,17,18,19,20,21,22,23,24,25,26,27])
 (d 28
 (s (r [
 m 29 0,
 v 30 (.nilCheck (t 29)),
 g 31 2 30,
 ⟨none,none,.store 1 (t 31) (.const (.bool true))⟩] [29,30,31])
 (s (r [
 v 2 (.mv (.const (.val (.int .u64 0))))] [])
 .ret))
 .skip))
 (s (r [
 m 32 3,
 m 33 5,
 v 34 (.bin .rem T.uint8 (t 33) (.const (.val (.int .u8 128)))),
 v 35 (.toInt .u64 (t 34)),
 m 36 4,
 v 37 (.bin .mul T.int (c 7) (t 36)),
 v 38 (.bin .shl T.uint64 (t 35) (t 37)),
 v 39 (.bin .add T.uint64 (t 32) (t 38)),
 m 3 39] [32,33,34,35,36,37,38,39])
 (s (r [
 m 40 5,
 v 41 (.bin .lss T.uint8 (t 40) (.const (.val (.int .u8 128))))] [40])
 (d 41
 (s (r [
 m 42 3,
 m 2 42] [42])
 .ret)
 .skip))))))
 (r [
 m 11 4,
 v 12 (p 11 1),
 m 4 12] [11,12]))))))
 (s (r [
 v 2 (.mv (.const (.val (.int .u64 0))))] [])
 .ret))))⟩
theorem H.q1d:Has P F.q1d C.q1d:=⟨Tryz.f196,Tryz.func196,by kernel_rfl,by kernel_rfl⟩
noncomputable def C.q1a:MFunc:=⟨58,5,[],
 (s (r [
 m 12 2,
 m 13 1,
 v 14 (.bin .sub T.int (t 12) (t 13)),
 m 10 14] [12,13,14])
 (s (r [
 m 15 3,
 m 16 2,
 v 17 (.bin .sub T.int (t 15) (t 16)),
 m 11 17] [15,16,17])
 (s (.block 0 (.loop (s (s (r [
 m 18 10,
 m 19 11,
 v 20 (.bin .neq T.int (t 18) (t 19))] [18,19])
 (d 20
 .skip
 (.exit 0)))
 (.block 1 (s (r [
 m 21 10,
 m 22 11,
 v 23 (.bin .gtr T.int (t 21) (t 22))] [21,22])
 (d 23
 (s (r [
 m 24 0,
 m 25 2,
 m 26 10,
 v 27 (.bin .sub T.int (t 25) (t 26)),
 m 28 2,
 m 29 11,
 m 30 4,
 f 31 F.q0u [(t 24),(t 27),(t 28),(t 29),(t 30)]] [24,25,26,27,28,29,30,31])
 (r [
 m 32 10,
 m 33 11,
 v 34 (.bin .sub T.int (t 32) (t 33)),
 m 10 34] [32,33,34]))
 (s (r [
 m 35 0,
 m 36 2,
 m 37 10,
 v 38 (.bin .sub T.int (t 36) (t 37)),
 m 39 2,
 m 40 11,
 v 41 (.bin .add T.int (t 39) (t 40)),
 m 42 10,
 v 43 (.bin .sub T.int (t 41) (t 42)),
 m 44 10,
 m 45 4,
 f 46 F.q0u [(t 35),(t 38),(t 43),(t 44),(t 45)]] [35,36,37,38,39,40,41,42,43,44,45,46])
 (r [
 m 47 11,
 m 48 10,
 v 49 (.bin .sub T.int (t 47) (t 48)),
 m 11 49] [47,48,49]))))))))
 (r [
 m 50 0,
 m 51 2,
 m 52 10,
 v 53 (.bin .sub T.int (t 51) (t 52)),
 m 54 2,
 m 55 10,
 m 56 4,
 f 57 F.q0u [(t 50),(t 53),(t 54),(t 55),(t 56)]] [50,51,52,53,54,55,56,57]))))⟩
theorem H.q1a:Has P F.q1a C.q1a:=⟨Tryz.f197,Tryz.func197,by kernel_rfl,by kernel_rfl⟩
noncomputable def C.q02:MFunc:=⟨58,5,[],
 (s (r [
 m 12 2,
 m 13 1,
 v 14 (.bin .sub T.int (t 12) (t 13)),
 m 10 14] [12,13,14])
 (s (r [
 m 15 3,
 m 16 2,
 v 17 (.bin .sub T.int (t 15) (t 16)),
 m 11 17] [15,16,17])
 (s (.block 0 (.loop (s (s (r [
 m 18 10,
 m 19 11,
 v 20 (.bin .neq T.int (t 18) (t 19))] [18,19])
 (d 20
 .skip
 (.exit 0)))
 (.block 1 (s (r [
 m 21 10,
 m 22 11,
 v 23 (.bin .gtr T.int (t 21) (t 22))] [21,22])
 (d 23
 (s (r [
 m 24 0,
 m 25 2,
 m 26 10,
 v 27 (.bin .sub T.int (t 25) (t 26)),
 m 28 2,
 m 29 11,
 m 30 4,
 f 31 F.q0n [(t 24),(t 27),(t 28),(t 29),(t 30)]] [24,25,26,27,28,29,30,31])
 (r [
 m 32 10,
 m 33 11,
 v 34 (.bin .sub T.int (t 32) (t 33)),
 m 10 34] [32,33,34]))
 (s (r [
 m 35 0,
 m 36 2,
 m 37 10,
 v 38 (.bin .sub T.int (t 36) (t 37)),
 m 39 2,
 m 40 11,
 v 41 (.bin .add T.int (t 39) (t 40)),
 m 42 10,
 v 43 (.bin .sub T.int (t 41) (t 42)),
 m 44 10,
 m 45 4,
 f 46 F.q0n [(t 35),(t 38),(t 43),(t 44),(t 45)]] [35,36,37,38,39,40,41,42,43,44,45,46])
 (r [
 m 47 11,
 m 48 10,
 v 49 (.bin .sub T.int (t 47) (t 48)),
 m 11 49] [47,48,49]))))))))
 (r [
 m 50 0,
 m 51 2,
 m 52 10,
 v 53 (.bin .sub T.int (t 51) (t 52)),
 m 54 2,
 m 55 10,
 m 56 4,
 f 57 F.q0n [(t 50),(t 53),(t 54),(t 55),(t 56)]] [50,51,52,53,54,55,56,57]))))⟩
theorem H.q02:Has P F.q02 C.q02:=⟨Tryz.f198,Tryz.func198,by kernel_rfl,by kernel_rfl⟩
noncomputable def C.q2j:MFunc:=⟨74,1,[.tmp 2,.tmp 3],
 (s (r [
 ⟨some 1,none,.box T.apiValue (t 0)⟩,
 i 2 0,
 b 3 false] [])
 (s (r [
 g 9 2 1,
 l 10 9,
 ⟨some 11,none,.val (.bin .eql T.string (t 10) (.const (.val (.string ⟨#[]⟩))))⟩,
 m 12 11,
 w 13 12 (G 3 1),
 w 14 12 (D 13),
 w 15 12 (n 14),
 w 16 12 (.bin .eql T.int (t 15) (c 0)),
 v 17 (k 12 16),
 g 18 1 1,
 l 19 18,
 v 20 (.bin .eql T.int (t 19) (c 0)),
 m 21 20,
 w 22 21 (G 3 1),
 w 23 21 (D 22),
 w 24 21 (n 23),
 w 25 21 (.bin .eql T.int (t 24) (c 0)),
 v 26 (k 21 25),
 g 27 1 1,
 l 28 27,
 v 29 (.bin .eql T.int (t 28) (c 0)),
 m 30 29,
 w 31 30 (G 2 1),
 w 32 30 (D 31),
 ⟨some 33,some (30,true),.val (.bin .eql T.string (t 32) (.const (.val (.string ⟨#[]⟩))))⟩,
 v 34 (k 30 33),
 v 35 (.build [(.bool false),(.bool false),(.bool false),(.bool false)] [(1,1,(t 17)),(2,1,(t 26)),(3,1,(t 34))]),
 ⟨some 4,none,.alloc T.t4bool [(.bool false),(.bool false),(.bool false),(.bool false)]⟩,
 y 4 4 35] [9,10,11,12,13,14,15,16,17,18,19,20,21,22,23,24,25,26,27,28,29,30,31,32,33,34,35])
 (s (s (r [
 g 36 0 1,
 l 37 36,
 v 38 (.bin .lss T.int (t 37) (c 1)),
 m 39 38,
 z 40 39 (G 0 1),
 z 41 39 (D 40),
 z 42 39 (.bin .gtr T.int (t 41) (c 3)),
 v 43 (j 39 42),
 m 44 43,
 z 45 44 (G 0 1),
 z 46 44 (D 45),
 z 47 44 (.indexArr 4 1 (t 4) (t 46)),
 z 48 44 (D 47),
 z 49 44 (N 48),
 v 50 (j 44 49)] [36,37,38,39,40,41,42,43,44,45,46,47,48,49])
 (d 50
 (s (r [
 i 2 0,
 b 3 false] [])
 .ret)
 .skip))
 (s (s (r [
 g 51 0 1,
 l 52 51,
 v 53 (.bin .lss T.int (t 52) (c 3))] [51,52])
 (d 53
 (s (r [
 i 2 0,
 b 3 true] [])
 .ret)
 .skip))
 (s (s (r [
 g 54 3 1,
 l 55 54,
 v 56 (n 55),
 i 57 0] [54])
 (.block 0 (.loop (s (r [
 v 58 (A 57 56)] [])
 (s (d 58
 .skip
 (.exit 0))
 (s (.block 1 (s (r [
 v 59 (I 4 55 57),
 L 60 4 59,
 ⟨some 6,none,.alloc T.apiValue [(.int 0),(.int 0),(.val (.string ⟨#[]⟩)),.nil]⟩,
 y 4 6 60] [59,60])
 (s (r [
 L 62 4 6,
 f 63 F.q2j [(t 62)],
 m 61 63,
 x 64 0 61,
 x 65 1 61,
 m 7 64,
 m 8 65] [62,63,61,64,65])
 (s (s (r [
 m 66 8,
 v 67 (N 66)] [66])
 (d 67
 (s (r [
 i 2 0,
 b 3 false] [])
 .ret)
 .skip))
 (r [
 m 68 2,
 m 69 7,
 v 70 (.minmax true [(t 68),(t 69)]),
 m 2 70] [68,69,70])))))
 (r [
 v 71 (p 57 1),
 m 57 71] [71])))))))
 (s (r [
 m 72 2,
 v 73 (p 72 1),
 m 2 73,
 b 3 true] [72,73])
 .ret))))))⟩
theorem H.q2j:Has P F.q2j C.q2j:=⟨Tryz.f199,Tryz.func199,by kernel_rfl,by kernel_rfl⟩
noncomputable def C.q2o:MFunc:=⟨12,2,[.tmp 4],
 (s (r [
 ⟨some 3,none,.box T.apiValue (t 1)⟩,
 v 4 (.mv (.const .nil))] [])
 (s (.draw true [
 e (m 5 0),
 e (v 6 (.buildSlice T.uint8 1 [(.val (.int .u8 0))] [(0,1,(.const (.val (.int .u8 1))))])),
 a (g 8 1 3),
 a (l 9 8),
 h (⟨some 7,none,.append T.uint8 1 1 (t 5) (t 6)⟩),
 h (f 10 F.q4h [(t 9)]),
 h (f 11 F.q4g [(t 7),(t 10)]),
 a (m 4 11)] [5,6,7,8,9,10,11])
 .ret))⟩
theorem H.q2o:Has P F.q2o C.q2o:=⟨Tryz.f200,Tryz.func200,by kernel_rfl,by kernel_rfl⟩
noncomputable def C.q4g:MFunc:=⟨20,2,[.tmp 4],
 (s (r [
 v 4 (.mv (.const .nil))] [])
 (s (.block 0 (.loop (s (s (r [
 m 5 1,
 v 6 (.bin .geq T.uint64 (t 5) (.const (.val (.int .u64 128))))] [5])
 (d 6
 .skip
 (.exit 0)))
 (s (.block 1 (r [
 m 9 0,
 m 10 1,
 v 11 (.toInt .u8 (t 10)),
 v 12 (.bin .or T.uint8 (t 11) (.const (.val (.int .u8 128)))),
 v 13 (.buildSlice T.uint8 1 [(.val (.int .u8 0))] [(0,1,(t 12))]),
 ⟨some 14,none,.append T.uint8 1 1 (t 9) (t 13)⟩,
 m 0 14] [9,10,11,12,13,14]))
 (r [
 m 7 1,
 v 8 (.bin .shr T.uint64 (t 7) (.const (.val (.int .u64 7)))),
 m 1 8] [7,8])))))
 (s (r [
 m 15 0,
 m 16 1,
 v 17 (.toInt .u8 (t 16)),
 v 18 (.buildSlice T.uint8 1 [(.val (.int .u8 0))] [(0,1,(t 17))]),
 ⟨some 19,none,.append T.uint8 1 1 (t 15) (t 18)⟩,
 m 4 19] [15,16,17,18,19])
 .ret)))⟩
theorem H.q4g:Has P F.q4g C.q4g:=⟨Tryz.f201,Tryz.func201,by kernel_rfl,by kernel_rfl⟩
noncomputable def C.q4h:MFunc:=⟨10,1,[.tmp 2],
 (s (r [
 v 2 (.mv (.const (.val (.int .u64 0))))] [])
 (s (r [
 m 3 0,
 v 4 (.toInt .u64 (t 3)),
 v 5 (.bin .shl T.uint64 (t 4) (.const (.val (.int .u64 1)))),
 m 6 0,
 v 7 (.bin .shr T.int (t 6) (.const (.val (.int .u64 63)))),
 v 8 (.toInt .u64 (t 7)),
 v 9 (.bin .xor T.uint64 (t 5) (t 8)),
 m 2 9] [3,4,5,6,7,8,9])
 .ret))⟩
theorem H.q4h:Has P F.q4h C.q4h:=⟨Tryz.f202,Tryz.func202,by kernel_rfl,by kernel_rfl⟩
noncomputable def C.q2p:MFunc:=⟨35,3,[.tmp 5],
 (s (r [
 ⟨some 4,none,.box T.apiValue (t 1)⟩,
 v 5 (.mv (.const .nil))] [])
 (s (.draw true [
 e (m 8 0),
 e (v 9 (.buildSlice T.uint8 1 [(.val (.int .u8 0))] [(0,1,(.const (.val (.int .u8 3))))])),
 a (g 11 3 4),
 a (l 12 11),
 a (v 13 (n 12)),
 a (v 14 (.toInt .u64 (t 13))),
 h (⟨some 10,none,.append T.uint8 1 1 (t 8) (t 9)⟩),
 h (f 15 F.q4g [(t 10),(t 14)]),
 a (m 0 15)] [8,9,10,11,12,13,14,15])
 (s (s (r [
 g 16 3 4,
 l 17 16,
 v 18 (n 17),
 i 19 0] [16])
 (.block 0 (.loop (s (r [
 v 20 (A 19 18)] [])
 (s (d 20
 .skip
 (.exit 0))
 (s (.block 1 (s (r [
 v 21 (I 4 17 19),
 L 22 4 21,
 ⟨some 7,none,.alloc T.apiValue [(.int 0),(.int 0),(.val (.string ⟨#[]⟩)),.nil]⟩,
 y 4 7 22] [21,22])
 (.draw true [
 e (l 23 2),
 e (g 24 0 7),
 e (l 25 24),
 e (v 26 (.nilCheck (t 23))),
 e (v 27 (.indexArr 4 1 (t 26) (t 25))),
 e (g 28 0 27),
 e (l 29 28),
 e (m 30 0),
 e (L 31 4 7),
 h (⟨some 32,none,.call (t 29) [(t 30),(t 31)]⟩),
 a (m 0 32)] [23,24,25,26,27,28,29,30,31,32])))
 (r [
 v 33 (p 19 1),
 m 19 33] [33])))))))
 (s (r [
 m 34 0,
 m 5 34] [34])
 .ret))))⟩
theorem H.q2p:Has P F.q2p C.q2p:=⟨Tryz.f204,Tryz.func204,by kernel_rfl,by kernel_rfl⟩
noncomputable def C.q3p:MFunc:=⟨7,1,[.tmp 2],
 (s (r [
 ⟨some 1,none,.box T.apiEvent (t 0)⟩,
 b 2 false] [])
 (s (r [
 L 3 9 1,
 v 4 (.buildSlice T.apiEvent 1 q3 [(0,9,(t 3))]),
 f 5 F.q3q [(t 4)],
 v 6 (.bin .eql T.apiErrno (t 5) (c 0)),
 m 2 6] [3,4,5,6])
 .ret))⟩
theorem H.q3p:Has P F.q3p C.q3p:=⟨Tryz.f212,Tryz.func212,by kernel_rfl,by kernel_rfl⟩
noncomputable def C.q0u:MFunc:=⟨38,5,[],
 (s (r [
 i 10 0] [])
 (.block 0 (.loop (s (s (r [
 m 11 10,
 m 12 3,
 v 13 (A 11 12)] [11,12])
 (d 13
 .skip
 (.exit 0)))
 (s (.block 1 (.draw true [
 e (m 16 0),
 e (m 17 1),
 e (m 18 10),
 e (v 19 (.bin .add T.int (t 17) (t 18))),
 a (m 20 0),
 a (m 21 2),
 a (m 22 10),
 a (v 23 (.bin .add T.int (t 21) (t 22))),
 e (m 24 0),
 e (m 25 2),
 e (m 26 10),
 e (v 27 (.bin .add T.int (t 25) (t 26))),
 e (v 28 (I 9 24 27)),
 e (L 29 9 28),
 e (m 30 0),
 e (m 31 1),
 e (m 32 10),
 e (v 33 (.bin .add T.int (t 31) (t 32))),
 e (v 34 (I 9 30 33)),
 e (L 35 9 34),
 e (v 36 (I 9 16 19)),
 (.last,y 9 36 29),
 a (v 37 (I 9 20 23)),
 (.last,y 9 37 35)] [16,17,18,19,20,21,22,23,24,25,26,27,28,29,30,31,32,33,34,35,36,37]))
 (r [
 m 14 10,
 v 15 (p 14 1),
 m 10 15] [14,15]))))))⟩
theorem H.q0u:Has P F.q0u C.q0u:=⟨Tryz.f214,Tryz.func214,by kernel_rfl,by kernel_rfl⟩
noncomputable def C.q0n:MFunc:=⟨38,5,[],
 (s (r [
 i 10 0] [])
 (.block 0 (.loop (s (s (r [
 m 11 10,
 m 12 3,
 v 13 (A 11 12)] [11,12])
 (d 13
 .skip
 (.exit 0)))
 (s (.block 1 (.draw true [
 e (m 16 0),
 e (m 17 1),
 e (m 18 10),
 e (v 19 (.bin .add T.int (t 17) (t 18))),
 a (m 20 0),
 a (m 21 2),
 a (m 22 10),
 a (v 23 (.bin .add T.int (t 21) (t 22))),
 e (m 24 0),
 e (m 25 2),
 e (m 26 10),
 e (v 27 (.bin .add T.int (t 25) (t 26))),
 e (v 28 (I 14 24 27)),
 e (L 29 14 28),
 e (m 30 0),
 e (m 31 1),
 e (m 32 10),
 e (v 33 (.bin .add T.int (t 31) (t 32))),
 e (v 34 (I 14 30 33)),
 e (L 35 14 34),
 e (v 36 (I 14 16 19)),
 (.last,y 14 36 29),
 a (v 37 (I 14 20 23)),
 (.last,y 14 37 35)] [16,17,18,19,20,21,22,23,24,25,26,27,28,29,30,31,32,33,34,35,36,37]))
 (r [
 m 14 10,
 v 15 (p 14 1),
 m 10 15] [14,15]))))))⟩
theorem H.q0n:Has P F.q0n C.q0n:=⟨Tryz.f215,Tryz.func215,by kernel_rfl,by kernel_rfl⟩
noncomputable def C.q3q:MFunc:=⟨37,1,[.tmp 2],
 (s (r [
 i 2 0] [])
 (s (s (r [
 m 4 0,
 v 5 (n 4),
 v 6 (.bin .gtr T.int (t 5) (c 4096))] [4,5])
 (d 6
 (s (r [
 i 2 2] [])
 .ret)
 .skip))
 (s (s (r [
 i 3 0] [])
 (.block 0 (.loop (s (s (r [
 m 7 3,
 m 8 0,
 v 9 (n 8),
 v 10 (A 7 9)] [7,8,9])
 (d 10
 .skip
 (.exit 0)))
 (s (.block 1 (s (.draw true [
 e (m 13 0),
 e (m 14 3),
 e (v 15 (I 9 13 14)),
 e (L 16 9 15),
 h (f 17 F.q21 [(t 16)]),
 a (v 18 (N 17)),
 a (m 19 18),
 a (z 20 19 (M 3)),
 a (z 21 19 (.bin .gtr T.int (t 20) (c 0))),
 a (z 22 19 (M 21)),
 a (w 23 22 (M 0)),
 a (w 24 22 (M 3)),
 a (w 25 22 (I 9 23 24)),
 a (w 26 22 (G 0 25)),
 a (w 27 22 (D 26)),
 a (w 28 22 (M 0)),
 a (w 29 22 (M 3)),
 a (w 30 22 (.bin .sub T.int (t 29) (c 1))),
 a (w 31 22 (I 9 28 30)),
 a (w 32 22 (G 0 31)),
 a (w 33 22 (D 32)),
 a (w 34 22 (.bin .leq T.int (t 27) (t 33))),
 a (z 35 19 (k 22 34)),
 a (v 36 (j 19 35))] [13,14,15,16,17,18,19,20,21,22,23,24,25,26,27,28,29,30,31,32,33,34,35])
 (d 36
 (s (r [
 i 2 490] [])
 .ret)
 .skip)))
 (r [
 m 11 3,
 v 12 (p 11 1),
 m 3 12] [11,12]))))))
 (s (r [
 i 2 0] [])
 .ret))))⟩
theorem H.q3q:Has P F.q3q C.q3q:=⟨Tryz.f217,Tryz.func217,by kernel_rfl,by kernel_rfl⟩
end Go.Proofs.YtmlmoaimjifpgaaGreat
