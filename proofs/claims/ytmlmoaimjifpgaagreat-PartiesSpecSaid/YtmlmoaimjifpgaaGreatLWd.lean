/- Words of 32 bits. -/
import Derived.Test.YtmlmoaimjifpgaaGreatLRd
import Derived.Test.YtmlmoaimjifpgaaGreatLNt
namespace Go.Pv
def u32 (x:BitVec 32):Int:=x.toNat
abbrev wv (x:BitVec 32):PV:=.val (.int .u32 (u32 x))
section
variable (x y:BitVec 32) (K:PV->Prop)
theorem rot_eq (n:Nat)(h:n<32):x <<< (32-n) ||| x >>> n=x.rotateRight n:=by
 rw [BitVec.rotateRight_def,Nat.mod_eq_of_lt h,BitVec.or_comm]
end
def u8 (x:BitVec 8):Int:=x.toNat
abbrev bv (x:BitVec 8):PV:=.val (.int .u8 (u8 x))
theorem z3f (n:Int):IntKind.u8.wrap n=u8 (BitVec.ofInt 8 n):=by
 unfold u8
 rw [BitVec.toNat_ofInt]
 simp [IntKind.wrap,IntKind.bits,IntKind.signed]
 omega
def q5p (l:List (BitVec 8)):List PV:=l.map bv
abbrev q53 (t:Bool)(l:List (BitVec 8)):PV:=.list t (q5p l) l.length
@[simp] theorem y2k:q5p []=[]:=rfl
theorem q6u (l:List (BitVec 8)):(q5p l).length=l.length*1:=by simp [q5p]
@[simp] theorem q6o (l:List (BitVec 8)):(q5p l).length=l.length:=by simp [q5p]
theorem q5y (l m:List (BitVec 8)):q5p (l++m)=q5p l++q5p m:=by simp [q5p]
@[simp] theorem y0t (l:List (BitVec 8))(i:Nat)(h:i<(q5p l).length):(q5p l)[i]'h=bv (l[i]'(by rw [q6o] at h; exact h)):=by simp [q5p]
theorem k24 (l:List (BitVec 8))(i:Nat):(q5p l).take i=q5p (l.take i):=by simp [q5p]
theorem k25 (l:List (BitVec 8))(i:Nat):(q5p l).drop i=q5p (l.drop i):=by simp [q5p]
theorem k9a (l:List (BitVec 8))(i:Nat)(x:BitVec 8):(q5p l).set i (bv x)=q5p (l.set i x):=by simp [q5p,List.map_set]
theorem k9b (s:ByteArray):k1t s=q5p (s.data.toList.map (·.toBitVec)):=by
 unfold k1t q5p
 rw [List.map_map]
 rfl
def q9g (l:List (BitVec 32)):List PV:=l.map wv
@[simp] theorem k2c (l:List (BitVec 32))(i:Nat)(h:i<l.length):(q9g l)[i]?=some (wv l[i]):=by simp [q9g,h]
theorem k9c (l:List (BitVec 32))(i:Nat)(x:BitVec 32):(q9g l).set i (wv x)=q9g (l.set i x):=by simp [q9g,List.map_set]
def y7k (a b c d:BitVec 8):BitVec 32:=a.setWidth 32 <<< 24 ||| b.setWidth 32 <<< 16 ||| c.setWidth 32 <<< 8 ||| d.setWidth 32
theorem sub_all {l:List PV}{n:Nat}(h:l.length=n):Pv.sub l 0 n=some l:=by
 rw [j0e,if_pos (by omega),List.drop_zero,List.take_of_length_le (by omega)]
namespace Sha
def msg (m:Nat->BitVec 32)(t:Nat):BitVec 32:=
 if t<16 then m t
 else msg m (t-16)+((msg m (t-15)).rotateRight 7 ^^^ (msg m (t-15)).rotateRight 18 ^^^ (msg m (t-15)) >>> 3)+msg m (t-7) +
  ((msg m (t-2)).rotateRight 17 ^^^ (msg m (t-2)).rotateRight 19 ^^^ (msg m (t-2)) >>> 10)
termination_by t
theorem v1o (m:Nat->BitVec 32){t:Nat}(h:t<16):msg m t=m t:=by rw [msg,if_pos h]
theorem y9z (m:Nat->BitVec 32)(s:Nat):msg m (s+16)=msg m s+((msg m (s+1)).rotateRight 7 ^^^ (msg m (s+1)).rotateRight 18 ^^^ (msg m (s+1)) >>> 3)+msg m (s+9) +
  ((msg m (s+14)).rotateRight 17 ^^^ (msg m (s+14)).rotateRight 19 ^^^ (msg m (s+14)) >>> 10):=by
 rw [msg,if_neg (by omega)]
 rfl
def wAt (m:Nat->BitVec 32)(t:Nat):List (BitVec 32):=(List.range 64).map fun j=>if j<t then msg m j else 0
theorem j40 (m:Nat->BitVec 32)(t:Nat):(wAt m t).length=64:=by simp [wAt]
theorem v1p (m:Nat->BitVec 32){t j:Nat}(hj:j<64)(ht:j<t):(q9g (wAt m t))[j]?=some (wv (msg m j)):=by
 rw [k2c _ _ (by rw [j40]; exact hj)]
 simp [wAt,ht]
theorem v1q (m:Nat->BitVec 32){t:Nat}(ht:t<64):(q9g (wAt m t)).set t (wv (msg m t))=q9g (wAt m (t+1)):=by
 rw [k9c]
 congr 1
 apply List.ext_getElem?
 intro j
 rw [List.getElem?_set,j40]
 unfold wAt
 rw [List.getElem?_map,List.getElem?_map]
 by_cases hj:t=j
 ·subst hj
  rw [if_pos rfl,if_pos ht,List.getElem?_range ht]
  simp
 ·rw [if_neg hj]
  by_cases h64:j<64
  ·rw [List.getElem?_range h64]
   simp only [Option.map_some]
   by_cases h1:j<t
   ·rw [if_pos h1,if_pos (by omega)]
   ·rw [if_neg h1,if_neg (by omega)]
  ·rw [List.getElem?_eq_none (by simpa using h64)]
   rfl
structure S8 where
 a:BitVec 32
 b:BitVec 32
 c:BitVec 32
 d:BitVec 32
 e:BitVec 32
 f:BitVec 32
 g:BitVec 32
 h:BitVec 32
def S8.row (s:S8):List PV:=[wv s.a,wv s.b,wv s.c,wv s.d,wv s.e,wv s.f,wv s.g,wv s.h]
def S8.words (s:S8):List (BitVec 32):=[s.a,s.b,s.c,s.d,s.e,s.f,s.g,s.h]
@[simp] theorem S8.len (s:S8):s.row.length=8:=rfl
@[simp] theorem S8.get0 (s:S8):s.row[0]?=some (wv s.a):=rfl
@[simp] theorem S8.get1 (s:S8):s.row[1]?=some (wv s.b):=rfl
@[simp] theorem S8.get2 (s:S8):s.row[2]?=some (wv s.c):=rfl
@[simp] theorem S8.get3 (s:S8):s.row[3]?=some (wv s.d):=rfl
@[simp] theorem S8.get4 (s:S8):s.row[4]?=some (wv s.e):=rfl
@[simp] theorem S8.get5 (s:S8):s.row[5]?=some (wv s.f):=rfl
@[simp] theorem S8.get6 (s:S8):s.row[6]?=some (wv s.g):=rfl
@[simp] theorem S8.get7 (s:S8):s.row[7]?=some (wv s.h):=rfl
@[simp] theorem S8.getE0 (s:S8)(h:0<s.row.length):s.row[0]'h=wv s.a:=rfl
@[simp] theorem S8.getE1 (s:S8)(h:1<s.row.length):s.row[1]'h=wv s.b:=rfl
@[simp] theorem S8.getE2 (s:S8)(h:2<s.row.length):s.row[2]'h=wv s.c:=rfl
@[simp] theorem S8.getE3 (s:S8)(h:3<s.row.length):s.row[3]'h=wv s.d:=rfl
@[simp] theorem S8.getE4 (s:S8)(h:4<s.row.length):s.row[4]'h=wv s.e:=rfl
@[simp] theorem S8.getE5 (s:S8)(h:5<s.row.length):s.row[5]'h=wv s.f:=rfl
@[simp] theorem S8.getE6 (s:S8)(h:6<s.row.length):s.row[6]'h=wv s.g:=rfl
@[simp] theorem S8.getE7 (s:S8)(h:7<s.row.length):s.row[7]'h=wv s.h:=rfl
@[simp] theorem S8.set0 (s:S8)(x:BitVec 32):s.row.set 0 (wv x)=(S8.mk x s.b s.c s.d s.e s.f s.g s.h).row:=rfl
@[simp] theorem S8.set4 (s:S8)(x:BitVec 32):s.row.set 4 (wv x)=(S8.mk s.a s.b s.c s.d x s.f s.g s.h).row:=rfl
@[simp] theorem S8.set1 (s:S8)(x:BitVec 32):s.row.set 1 (wv x)=(S8.mk s.a x s.c s.d s.e s.f s.g s.h).row:=rfl
@[simp] theorem S8.set2 (s:S8)(x:BitVec 32):s.row.set 2 (wv x)=(S8.mk s.a s.b x s.d s.e s.f s.g s.h).row:=rfl
@[simp] theorem S8.set3 (s:S8)(x:BitVec 32):s.row.set 3 (wv x)=(S8.mk s.a s.b s.c x s.e s.f s.g s.h).row:=rfl
@[simp] theorem S8.set5 (s:S8)(x:BitVec 32):s.row.set 5 (wv x)=(S8.mk s.a s.b s.c s.d s.e x s.g s.h).row:=rfl
@[simp] theorem S8.set6 (s:S8)(x:BitVec 32):s.row.set 6 (wv x)=(S8.mk s.a s.b s.c s.d s.e s.f x s.h).row:=rfl
@[simp] theorem S8.set7 (s:S8)(x:BitVec 32):s.row.set 7 (wv x)=(S8.mk s.a s.b s.c s.d s.e s.f s.g x).row:=rfl
@[simp] theorem S8.shift (s:S8):q5j s.row 1 ((s.row.take 7).take 7)=(S8.mk s.a s.a s.b s.c s.d s.e s.f s.g).row:=rfl
@[simp] theorem S8.sub (s:S8):Pv.sub s.row 0 8=some s.row:=rfl
def sig (x:BitVec 32)(a b c:Nat):BitVec 32:=x.rotateRight a ^^^ x.rotateRight b ^^^ x.rotateRight c
def t1 (s:S8)(k w:BitVec 32):BitVec 32:=s.h+sig s.e 6 11 25+((s.e &&& s.f) ^^^ ((~~~ s.e) &&& s.g))+k+w
def t2 (s:S8):BitVec 32:=sig s.a 2 13 22+((s.a &&& s.b) ^^^ (s.a &&& s.c) ^^^ (s.b &&& s.c))
def step (s:S8)(k w:BitVec 32):S8:=⟨t1 s k w+t2 s,s.a,s.b,s.c,s.d+t1 s k w,s.e,s.f,s.g⟩
def nums:List (BitVec 32):=0x428a2f98#32::0x71374491#32::0xb5c0fbcf#32::0xe9b5dba5#32::0x3956c25b#32::0x59f111f1#32::0x923f82a4#32::0xab1c5ed5#32 ::
 0xd807aa98#32::0x12835b01#32::0x243185be#32::0x550c7dc3#32::0x72be5d74#32::0x80deb1fe#32::0x9bdc06a7#32::0xc19bf174#32 ::
 0xe49b69c1#32::0xefbe4786#32::0x0fc19dc6#32::0x240ca1cc#32::0x2de92c6f#32::0x4a7484aa#32::0x5cb0a9dc#32::0x76f988da#32 ::
 0x983e5152#32::0xa831c66d#32::0xb00327c8#32::0xbf597fc7#32::0xc6e00bf3#32::0xd5a79147#32::0x06ca6351#32::0x14292967#32 ::
 0x27b70a85#32::0x2e1b2138#32::0x4d2c6dfc#32::0x53380d13#32::0x650a7354#32::0x766a0abb#32::0x81c2c92e#32::0x92722c85#32 ::
 0xa2bfe8a1#32::0xa81a664b#32::0xc24b8b70#32::0xc76c51a3#32::0xd192e819#32::0xd6990624#32::0xf40e3585#32::0x106aa070#32 ::
 0x19a4c116#32::0x1e376c08#32::0x2748774c#32::0x34b0bcb5#32::0x391c0cb3#32::0x4ed8aa4a#32::0x5b9cca4f#32::0x682e6ff3#32 ::
 0x748f82ee#32::0x78a5636f#32::0x84c87814#32::0x8cc70208#32::0x90befffa#32::0xa4506ceb#32::0xbef9a3f7#32::0xc67178f2#32::[]
theorem y90:nums.length=64:=rfl
def start:S8:=⟨0x6a09e667#32,0xbb67ae85#32,0x3c6ef372#32,0xa54ff53a#32,0x510e527f#32,0x9b05688c#32,0x1f83d9ab#32,0x5be0cd19#32⟩
def y0u (m:Nat->BitVec 32)(s:S8):Nat->S8
 | 0=>s
 | t+1=>step (y0u m s t) (nums.getD t 0) (msg m t)
def plus (s v:S8):S8:=⟨s.a+v.a,s.b+v.b,s.c+v.c,s.d+v.d,s.e+v.e,s.f+v.f,s.g+v.g,s.h+v.h⟩
def j0s (l:List (BitVec 8))(i:Nat):BitVec 8:=l.getD i 0
def words (l:List (BitVec 8))(t:Nat):BitVec 32:=y7k (j0s l (4*t)) (j0s l (4*t+1)) (j0s l (4*t+2)) (j0s l (4*t+3))
def block (s:S8)(l:List (BitVec 8)):S8:=plus s (y0u (words l) s 64)
theorem S8.row_eq (s:S8):s.row=q9g s.words:=rfl
def z3g (s v:S8)(i:Nat):List (BitVec 32):=(List.range 8).map fun j=>if j<i then s.words.getD j 0+v.words.getD j 0 else s.words.getD j 0
theorem z51 (s v:S8)(i:Nat):(z3g s v i).length=8:=by simp [z3g]
theorem y4y (s v:S8):z3g s v 0=s.words:=rfl
theorem y7l (s v:S8):z3g s v 8=(plus s v).words:=rfl
theorem y7m (s v:S8){i:Nat}(hi:i<8):(q9g (z3g s v i))[i]?=some (wv (s.words.getD i 0)):=by
 rw [k2c _ _ (by rw [z51]; exact hi)]
 simp [z3g]
theorem v1r (v:S8){i:Nat}(hi:i<8):v.row[i]?=some (wv (v.words.getD i 0)):=by
 have hi':i<v.words.length:=hi
 rw [S8.row_eq,k2c _ _ hi',List.getD_eq_getElem?_getD,List.getElem?_eq_getElem hi']
 rfl
theorem y7n (s v:S8){i:Nat}(hi:i<8):(q9g (z3g s v i)).set i (wv (s.words.getD i 0+v.words.getD i 0))=q9g (z3g s v (i+1)):=by
 rw [k9c]
 congr 1
 apply List.ext_getElem?
 intro j
 rw [List.getElem?_set,z51]
 unfold z3g
 rw [List.getElem?_map,List.getElem?_map]
 by_cases hj:i=j
 ·subst hj
  rw [if_pos rfl,if_pos hi,List.getElem?_range hi]
  simp
 ·rw [if_neg hj]
  by_cases h8:j<8
  ·rw [List.getElem?_range h8]
   simp only [Option.map_some]
   by_cases h1:j<i
   ·rw [if_pos h1,if_pos (by omega)]
   ·rw [if_neg h1,if_neg (by omega)]
  ·rw [List.getElem?_eq_none (by simpa using h8)]
   rfl
theorem y91 {t:Nat}(ht:t<64):(q9g nums)[t]?=some (wv (nums.getD t 0)):=by
 have h:t<nums.length:=ht
 rw [k2c _ _ h]
 congr 2
 rw [List.getD_eq_getElem?_getD,List.getElem?_eq_getElem h]
 rfl
def k6x (n:Nat):Nat:=(119-n % 64) % 64
theorem z8m (n:Nat):(n+1+k6x n) % 64=56:=by unfold k6x; omega
theorem y4z (n z:Nat)(h:z<k6x n):(n+1+z) % 64 ≠ 56:=by unfold k6x at h; omega
def q70 (k n:Nat):List (BitVec 8):=(List.range k).map fun i=>BitVec.ofNat 8 (n >>> (8*(k-1-i)))
@[simp] theorem z8n (k n:Nat):(q70 k n).length=k:=by simp [q70]
theorem y0v {k n i:Nat}(h:i<k):(q70 k n).take (i+1)=(q70 k n).take i++[BitVec.ofNat 8 (n >>> (8*(k-1-i)))]:=by
 rw [List.take_succ_eq_append_getElem (by simpa using h)]
 simp [q70]
theorem y92 (n j:Nat)(hj:8*j<=64):IntKind.u8.wrap ((n:Int).fdiv (2 ^ min (8*j) IntKind.u64.bits))=u8 (BitVec.ofNat 8 (n >>> (8*j))):=by
 have e:IntKind.u64.bits=64:=rfl
 rw [e,Nat.min_eq_left hj,z3f,Int.fdiv_eq_ediv_of_nonneg _ (Int.pow_nonneg (by omega)),Nat.shiftRight_eq_div_pow]
 have h2:(n:Int) / 2 ^ (8*j)=((n / 2 ^ (8*j):Nat):Int):=by simp
 rw [h2,BitVec.ofInt_natCast]
def z52 (l:List (BitVec 8)):List (BitVec 8):=l++0x80#8::(List.replicate (k6x l.length) 0#8++q70 8 (l.length*8))
theorem j2b (l:List (BitVec 8)):(z52 l).length=l.length+1+k6x l.length+8:=by
 simp [z52]; omega
theorem y40 (l:List (BitVec 8)):(z52 l).length % 64=0:=by
 rw [j2b]
 have:=z8m l.length
 omega
def y0w (s:S8)(l:List (BitVec 8)):Nat->S8
 | 0=>s
 | n+1=>block (y0w s l n) ((l.drop (64*n)).take 64)
def S8.bytes (s:S8):List (BitVec 8):=s.words.flatMap fun w=>q70 4 w.toNat
@[simp] theorem S8.bytes_len (s:S8):s.bytes.length=32:=rfl
def sum (l:List (BitVec 8)):List (BitVec 8):=(y0w start (z52 l) ((z52 l).length / 64)).bytes
@[simp] theorem v1s (l:List (BitVec 8)):(sum l).length=32:=rfl
def y7o (tag l:List (BitVec 8)):List (BitVec 8):=sum (sum tag++l)
@[simp] theorem y41 (tag l:List (BitVec 8)):(y7o tag l).length=32:=rfl
def y7p:List (BitVec 8):=List.replicate 128 0#8
set_option maxRecDepth 100000 in
theorem y93:(List.replicate 128 [PV.val (.int .u8 0)]).flatten=q5p y7p:=rfl
theorem y7q (R:List (BitVec 8))(r:Nat)(hR:R.length=r)(hr:r<64):(q5j (q5p y7p) 0 ((q5p R).take (min r 64))).set r (.val (.int .u8 128))=q5p (R++0x80#8::List.replicate (127-r) 0#8):=by
 rw [Nat.min_eq_left (by omega),List.take_of_length_le (by rw [q6o]; omega)]
 have e:q5p y7p=q5p (List.replicate r 0#8)++(bv 0#8::q5p (List.replicate (127-r) 0#8)):=by
  have h1:y7p=List.replicate r 0#8++(0#8::List.replicate (127-r) 0#8):=by
   unfold y7p
   rw [<-List.replicate_succ,List.replicate_append_replicate]
   congr 1
   omega
  rw [h1,q5y]
  rfl
 rw [e,q6w _ _ _ _ (by rw [q6o,q6o,List.length_replicate]; omega),k0t _ _ (by rw [q6o,q6o,List.length_replicate]; omega)]
 rw [List.set_append_right _ _ (by rw [q6o]; omega),q6o,hR,Nat.sub_self,q5y]
 rfl
def z32:List (BitVec 8):=List.replicate 32 0#8
@[simp] theorem v1t:z32.length=32:=rfl
def dAt (s:S8)(i:Nat):List (BitVec 8):=s.bytes.take i++List.replicate (32-i) 0#8
theorem v1u (s:S8){i:Nat}(h:i<=32):(dAt s i).length=32:=by simp [dAt]; omega
theorem y94 (s:S8):dAt s 0=z32:=rfl
theorem v1v (s:S8):dAt s 32=s.bytes:=by
 unfold dAt
 rw [List.take_of_length_le (by simp)]
 simp
theorem j41 (s:S8){i:Nat}(h:i<32):s.bytes[i]'(by simpa using h)=BitVec.ofNat 8 ((s.words.getD (i / 4) 0).toNat >>> (24-8*(i % 4))):=by
 have key:∀ ws:List (BitVec 32),∀ i,i<4*ws.length->(ws.flatMap fun w=>q70 4 w.toNat)[i]?=some (BitVec.ofNat 8 ((ws.getD (i / 4) 0).toNat >>> (24-8*(i % 4)))):=by
  intro ws
  induction ws with
  | nil=>intro i hi; simp at hi
  | cons w ws ih=>
   intro i hi
   rw [List.flatMap_cons]
   by_cases h4:i<4
   ·rw [List.getElem?_append_left (by simpa using h4),List.getElem?_eq_getElem (by simpa using h4)]
    have e1:i / 4=0:=by omega
    have e2:i % 4=i:=by omega
    rw [e1,e2]
    simp only [q70,List.getElem_map,List.getElem_range,List.getD_cons_zero]
    rw [show 8*(4-1-i)=24-8*i by omega]
   ·rw [List.getElem?_append_right (by simp; omega),z8n,ih (i-4) (by simp at hi; omega)]
    rw [show i / 4=(i-4) / 4+1 by omega,show i % 4=(i-4) % 4 by omega,List.getD_cons_succ]
 have:=key s.words i (by show i<32; exact h)
 have h2:i<s.bytes.length:=by simpa using h
 have h3:s.bytes[i]?=some (s.bytes[i]'h2):=List.getElem?_eq_getElem h2
 exact Option.some.inj (h3.symm.trans this)
theorem v1w (s:S8){i:Nat}(h:i<32):(q5p (dAt s i)).set i (bv (BitVec.ofNat 8 ((s.words.getD (i / 4) 0).toNat >>> (24-8*(i % 4)))))=q5p (dAt s (i+1)):=by
 rw [k9a,<-j41 s h]
 congr 1
 unfold dAt
 have hl:(s.bytes.take i).length=i:=by simp; omega
 rw [List.set_append_right _ _ (by omega),hl,Nat.sub_self,List.take_succ_eq_append_getElem (by simpa using h),List.append_assoc]
 congr 1
 rw [show 32-i=(32-(i+1))+1 by omega,List.replicate_succ]
 rfl
theorem y2l (w:BitVec 32)(k:Nat):IntKind.u8.wrap (u32 (w >>> k))=u8 (BitVec.ofNat 8 (w.toNat >>> k)):=by
 rw [z3f]
 congr 1
theorem y7r (l:List (BitVec 8))(m:Nat):((q5p l).take (64*m+64)).drop (64*m)=q5p ((l.drop (64*m)).take 64):=by
 rw [k24,k25,List.drop_take,show 64*m+64-64*m=64 by omega]
def pAt (X:List (BitVec 8))(n i:Nat):List (BitVec 8):=X.take (X.length-i)++(q70 X.length n).drop (X.length-i)
theorem j8f (X:List (BitVec 8))(n:Nat):pAt X n 0=X:=by
 unfold pAt
 rw [Nat.sub_zero,List.take_of_length_le (by omega),List.drop_of_length_le (by simp),List.append_nil]
theorem y2m (X:List (BitVec 8))(n:Nat):pAt X n X.length=q70 X.length n:=by
 unfold pAt
 rw [Nat.sub_self,List.take_zero,List.drop_zero,List.nil_append]
theorem j42 (X:List (BitVec 8))(n:Nat){i:Nat}(_h:i<=X.length):(pAt X n i).length=X.length:=by
 unfold pAt
 simp
theorem y2n (X:List (BitVec 8))(n:Nat){i:Nat}(h:i<X.length):(pAt X n i).set (X.length-1-i) (BitVec.ofNat 8 (n >>> (8*i)))=pAt X n (i+1):=by
 unfold pAt
 have e1:X.length-i=(X.length-(i+1))+1:=by omega
 have e2:X.length-1-i=X.length-(i+1):=by omega
 have hlt:X.length-(i+1)<X.length:=by omega
 rw [e2,e1,List.take_succ_eq_append_getElem hlt,List.append_assoc,List.set_append_right _ _ (by simp)]
 have hl:(X.take (X.length-(i+1))).length=X.length-(i+1):=by simp
 rw [hl,Nat.sub_self]
 congr 1
 have hd:=List.drop_eq_getElem_cons (l:=q70 X.length n) (i:=X.length-(i+1)) (by simpa using hlt)
 rw [hd]
 have hg:(q70 X.length n)[X.length-(i+1)]'(by simpa using hlt)=BitVec.ofNat 8 (n >>> (8*i)):=by
  simp only [q70,List.getElem_map,List.getElem_range]
  rw [show X.length-1-(X.length-(i+1))=i by omega]
 rw [hg]
 rfl
def j8g (A:List PV)(X:List (BitVec 8))(C:List PV)(n i:Nat):List PV:=A++(q5p (pAt X n i)++C)
theorem y7s (A:List PV)(X:List (BitVec 8))(C:List PV)(n:Nat):j8g A X C n 0=A++(q5p X++C):=by unfold j8g; rw [j8f]
theorem y95 (A:List PV)(X:List (BitVec 8))(C:List PV)(n:Nat):j8g A X C n X.length=A++(q5p (q70 X.length n)++C):=by unfold j8g; rw [y2m]
theorem y96 (A:List PV)(X:List (BitVec 8))(C:List PV)(n:Nat){i:Nat}(h:i<=X.length):(j8g A X C n i).length=A.length+(X.length+C.length):=by
 unfold j8g
 simp [j42 X n h]
theorem y97 (A:List PV)(X:List (BitVec 8))(C:List PV)(n:Nat){i:Nat}(h:i<X.length):(j8g A X C n i).set (A.length+(X.length-1-i)) (bv (BitVec.ofNat 8 (n >>> (8*i))))=j8g A X C n (i+1):=by
 unfold j8g
 rw [List.set_append_right _ _ (by omega),Nat.add_sub_cancel_left,List.set_append_left _ _ (by rw [q6o,j42 X n (by omega)]; omega),k9a,y2n X n h]
theorem j2c (s:S8){i:Nat}(h:i<8):s.bytes.take (4*(i+1))=s.bytes.take (4*i)++q70 4 (s.words.getD i 0).toNat:=by
 match i,h with
 | 0,_=>rfl
 | 1,_=>rfl
 | 2,_=>rfl
 | 3,_=>rfl
 | 4,_=>rfl
 | 5,_=>rfl
 | 6,_=>rfl
 | 7,_=>rfl
theorem y0x (x:BitVec 32):IntKind.u64.wrap (u32 x)=(x.toNat:Int):=by
 have:=x.isLt
 exact q7n (by unfold u32; omega) (by unfold u32; omega)
theorem y7t (s:S8){i:Nat}(h:i<8):q5p (dAt s (4*i))=q5p (s.bytes.take (4*i))++(q5p (List.replicate 4 0#8)++q5p (List.replicate (28-4*i) 0#8)):=by
 rw [<-q5y,<-q5y]
 unfold dAt
 rw [List.replicate_append_replicate]
 congr 3
 omega
theorem y42 (s:S8){i:Nat}(h:i<8):q5p (s.bytes.take (4*i))++(q5p (q70 4 (s.words.getD i 0).toNat)++q5p (List.replicate (28-4*i) 0#8))=q5p (dAt s (4*(i+1))):=by
 rw [<-q5y,<-q5y]
 unfold dAt
 rw [j2c s h,List.append_assoc]
 congr 4
 omega
end Sha
end Go.Pv
