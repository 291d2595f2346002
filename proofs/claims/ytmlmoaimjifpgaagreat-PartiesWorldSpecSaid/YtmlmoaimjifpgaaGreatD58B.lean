/- The reader of encodings: numerals. -/
import Derived.Test.YtmlmoaimjifpgaaGreatN58A
namespace Go.Proofs.YtmlmoaimjifpgaaGreat
open Go.Pv Go.Pv.Cd
set_option maxRecDepth 100000
set_option maxHeartbeats 4000000
def NumP (L:List (BitVec 8))(b:Nat)(st:q5c)(e:PEnd)(s:q5c):Prop:=match k0u 0 L with
 | some (u,r)=>e=.ret (.val (.int .u64 (u:Nat)))/\s=(b,rdO r)::st
 | none=>e=.panic q8s/\s=st
theorem NumP.no {L:List (BitVec 8)}{b:Nat}{st:q5c}(h:k0u 0 L=none):NumP L b st (.panic q8s) st:=by
 unfold NumP
 rw [h]
 exact⟨rfl,rfl⟩
theorem NumP.yes {L r:List (BitVec 8)}{b u:Nat}{st:q5c}(h:k0u 0 L=some (u,r)):NumP L b st (.ret (.val (.int .u64 (u:Nat)))) ((b,rdO r)::st):=by
 unfold NumP
 rw [h]
 exact⟨rfl,rfl⟩
structure NumI (L:List (BitVec 8))(i u:Nat)(R:List (BitVec 8)):Prop where
 dig:i<=9
 low:u<128 ^ i
 len:R.length<=L.length
 num:k0u 0 L=match k0u i R with
  | some (v,r)=>some (u+128 ^ i*v,r)
  | none=>none
theorem NumI.zero (L:List (BitVec 8)):NumI L 0 0 L:=⟨by omega,by decide,Nat.le_refl _,by
 cases k0u 0 L with
 | none=>rfl
 | some q=>simp⟩
theorem NumI.nil {L:List (BitVec 8)}{i u:Nat}(h:NumI L i u []):k0u 0 L=none:=by rw [h.num]; rfl
theorem NumI.bad {L r:List (BitVec 8)}{i u:Nat}{c:BitVec 8}(h:NumI L i u (c::r))(hc:¬ ((i=0\/c.toNat ≠ 0)/\(i<9\/c.toNat<=1))):k0u 0 L=none:=by
 rw [h.num,k0u,if_neg hc]
theorem NumI.last {L r:List (BitVec 8)}{i u:Nat}{c:BitVec 8}(h:NumI L i u (c::r))(hc:(i=0\/c.toNat ≠ 0)/\(i<9\/c.toNat<=1))(hl:c.toNat<128):k0u 0 L=some (u+c.toNat % 128*128 ^ i,r):=by
 rw [h.num,k0u,if_pos hc,if_pos hl,Nat.mod_eq_of_lt hl,Nat.mul_comm]
theorem NumI.next {L r:List (BitVec 8)}{i u:Nat}{c:BitVec 8}(h:NumI L i u (c::r))(hc:(i=0\/c.toNat ≠ 0)/\(i<9\/c.toNat<=1))(hl:¬ c.toNat<128):NumI L (i+1) (u+c.toNat % 128*128 ^ i) r:=by
 have h0:=h.dig
 have h1:=h.low
 have h2:=h.len
 have h3:c.toNat % 128<128:=Nat.mod_lt _ (by decide)
 have e1:128 ^ (i+1)=128*128 ^ i:=by rw [Nat.pow_succ,Nat.mul_comm]
 refine⟨by omega, ?_,by simp only [List.length_cons] at h2; omega, ?_⟩
 ·have:c.toNat % 128*128 ^ i<=127*128 ^ i:=Nat.mul_le_mul_right _ (by omega)
  rw [e1]
  omega
 ·rw [h.num,k0u,if_pos hc,if_neg hl]
  cases k0u (i+1) r with
  | none=>rfl
  | some q=>
   obtain⟨v,r'⟩:=q
   simp only
   congr 2
   rw [e1,Nat.mul_add,<-Nat.mul_assoc,Nat.mul_comm (128 ^ i) 128,Nat.mul_comm (c.toNat % 128)]
   omega
theorem y7x:∀ c,c<256->c &&& 127=c % 128:=by decide
theorem j8t {u i c:Nat}(hi:i<=9)(hu:u<128 ^ i)(hc:c<256)(h9:i<9\/c<=1){k:Int}(hk:k=7*(i:Int)) :
  IntKind.u64.wrap ((u % 2 ^ IntKind.u64.bits ||| (IntKind.u64.wrap (IntKind.u64.wrap (IntKind.u8.wrap ((c % 2 ^ IntKind.u8.bits &&& 127 % 2 ^ IntKind.u8.bits:Nat):Int))*2 ^ min k.toNat IntKind.u64.bits) % 2 ^ IntKind.u64.bits).toNat:Nat):Int)=((u+c % 128*128 ^ i:Nat):Int):=by
 have b8:IntKind.u8.bits=8:=rfl
 have b64:IntKind.u64.bits=64:=rfl
 have w8:∀ n:Nat,n<256->IntKind.u8.wrap (n:Int)=n:=fun n h=>by simp [IntKind.wrap,IntKind.bits,IntKind.signed]; omega
 have w64:∀ n:Nat,n<18446744073709551616->IntKind.u64.wrap (n:Int)=n:=fun n h=>by simp [IntKind.wrap,IntKind.bits,IntKind.signed]; omega
 have e1:c % 2 ^ 8 &&& 127 % 2 ^ 8=c % 128:=by
  rw [Nat.mod_eq_of_lt (show c<2 ^ 8 by omega)]
  exact y7x c hc
 have h1:c % 128<128:=Nat.mod_lt _ (by decide)
 have e2:min k.toNat 64=7*i:=by omega
 have e3:(2:Nat) ^ (7*i)=128 ^ i:=(j5e i).symm
 have p8:128 ^ i<=128 ^ 9:=Nat.pow_le_pow_right (by decide) hi
 have e9:(128:Nat) ^ 9=9223372036854775808:=by decide
 have hy:u+c % 128*128 ^ i<18446744073709551616:=by
  rcases h9 with h | h
  ·have q1:128 ^ i<=128 ^ 8:=Nat.pow_le_pow_right (by decide) (by omega)
   have q2:c % 128*128 ^ i<=127*128 ^ 8:=Nat.mul_le_mul (by omega) q1
   have q3:(127:Nat)*128 ^ 8=9151314442816847872:=by decide
   omega
  ·have q2:c % 128*128 ^ i<=1*128 ^ 9:=Nat.mul_le_mul (by omega) p8
   omega
 have cp:(2:Int) ^ (7*i)=((128 ^ i:Nat):Int):=by rw [<-e3]; exact (Int.natCast_pow 2 (7*i)).symm
 rw [b8,b64,e1,e2,w8 (c % 128) (by omega),w64 (c % 128) (by omega),cp,<-Int.natCast_mul,w64 (c % 128*128 ^ i) (by omega)]
 have e4:(((c % 128*128 ^ i:Nat):Int) % 2 ^ 64).toNat=c % 128*128 ^ i:=by omega
 rw [e4,Nat.mod_eq_of_lt (by omega)]
 have e5:u ||| c % 128*128 ^ i=u+c % 128*128 ^ i:=by
  rw [Nat.or_comm,Nat.mul_comm,<-e3,<-Nat.two_pow_add_eq_or_of_lt (by rw [e3]; exact hu),Nat.add_comm]
 rw [e5,w64 _ hy]
theorem k9n (L:List (BitVec 8))(hL:L.length<=100000)(b:Nat)(st:q5c)(hb:q50 st b):PCalls P F.q2e [.ptr b 0] ((b,rdO L)::st) (NumP L b st):=by
 refine H.q2e.view q5l rfl rfl ?_
 have h0:=Hid.mk (NumI.zero L)
 repeat' (simp -dsimp -implicitDefEqProofs [*])
 refine q5e (fun y:Nat × Nat × List (BitVec 8)=>[(0,.ptr b 0),(2,.val (.int .u64 (y.2.1:Nat))),(3,.int y.1)]) (fun y=>(b,rdO y.2.2)::st) (fun y=>Hid (NumI L y.1 y.2.1 y.2.2)) (fun y=>10-y.1) (0,0,L) h0 (by simp) (.refl _) ?_
 clear h0
 rintro⟨i,u,R⟩ hI
 replace hI:Hid (NumI L i u R):=hI
 simp only
 have hRl:R.length<=100000:=Nat.le_trans hI.out.len hL
 cases R with
 | nil=>
  have e:=Hid.mk hI.out.nil
  clear hI
  repeat' (simp -dsimp -implicitDefEqProofs [*])
  refine PanD.xcall (j1f _ _ hb) ?_
  repeat' (simp -dsimp -implicitDefEqProofs [*])
  exact .same (NumP.no e.out)
 | cons c r=>
  have hbv:bv c=.val (.int .u8 (c.toNat:Nat)):=rfl
  have hcl:=c.isLt
  by_cases ok:(i=0\/c.toNat ≠ 0)/\(i<9\/c.toNat<=1)
  case neg=>
   have e:=Hid.mk (hI.out.bad ok)
   clear hI
   by_cases h0:i=0
   ·exfalso; omega
   by_cases hc0:c.toNat=0
   ·repeat' (first 
     | (with_reducible refine Does.xcall (k3p _ _ _ _ hb) ?_)
     | (with_reducible refine Panics.xcall (k4t _ _) ?_)
     | (simp -dsimp -implicitDefEqProofs [*]))
    exact RetView.drop (st':=st) q5m (NumP.no e.out)
   ·have h9:¬ (i:Int)<9:=by omega
    have h91:(9:Int)<=i:=by omega
    have hc1:¬ (c.toNat:Int)<=1:=by omega
    repeat' (first 
     | (with_reducible refine Does.xcall (k3p _ _ _ _ hb) ?_)
     | (with_reducible refine Panics.xcall (k4t _ _) ?_)
     | (simp -dsimp -implicitDefEqProofs [*]))
    exact RetView.drop (st':=st) q5m (NumP.no e.out)
  have eL:=Hid.mk (hI.out.last ok)
  have eN:=Hid.mk (hI.out.next ok)
  have hd:=hI.out.dig
  have hu:=hI.out.low
  clear hI
  have hx:=fun k=>j8t (k:=k) hd hu hcl ok.2
  have e7:IntKind.i64.wrap (7*(i:Int))=7*(i:Int):=q5i (by omega) (by omega)
  have ei:=q5f (n:=i) (by omega)
  obtain⟨w,hw⟩:∃ w,w=u+c.toNat % 128*128 ^ i:=⟨_,rfl⟩
  rw [<-hw] at hx eL eN
  by_cases h0:i=0
  ·subst h0
   have e0:IntKind.i64.wrap 0=0:=rfl
   replace hx:IntKind.u64.wrap ((u % 2 ^ IntKind.u64.bits ||| (IntKind.u64.wrap (IntKind.u64.wrap (IntKind.u8.wrap ((c.toNat % 2 ^ IntKind.u8.bits &&& 127 % 2 ^ IntKind.u8.bits:Nat):Int))) % 2 ^ IntKind.u64.bits).toNat:Nat):Int)=(w:Int):=by
    have:=hx 0 rfl
    rwa [show (2:Int) ^ min (0:Int).toNat IntKind.u64.bits=1 from rfl,Int.mul_one] at this
   have e1:IntKind.i64.wrap 1=1:=rfl
   clear hw e7 ei
   repeat' (first 
    | (with_reducible refine Does.xcall (k3p _ _ _ _ hb) ?_)
    | (with_reducible refine Rets.xcall (k4s _ _) ?_)
    | (with_reducible refine And.intro (fun h=>?_) (fun h=>?_)) <;> (try (exfalso; omega))
    | (simp -dsimp -implicitDefEqProofs [*]))
   all_goals first | exact .same (NumP.yes (eL.out (by omega))) | exact Next.intro (1,w,r) ⟨(eN.out (by omega))⟩ (by simp only; omega) (by simp) (.refl _) | (exfalso; omega)
  have hc0:¬ c.toNat=0:=by omega
  replace hx:=hx _ rfl
  clear hw
  by_cases h9:(i:Int)<9
  ·repeat' (first 
    | (with_reducible refine Does.xcall (k3p _ _ _ _ hb) ?_)
    | (with_reducible refine Rets.xcall (k4s _ _) ?_)
    | (with_reducible refine And.intro (fun h=>?_) (fun h=>?_)) <;> (try (exfalso; omega))
    | ((with_reducible refine q5r ?_ fun hk=>?_); omega)
    | (simp -dsimp -implicitDefEqProofs [*]))
   all_goals first | exact .same (NumP.yes (eL.out (by omega))) | exact Next.intro (i+1,w,r) ⟨(eN.out (by omega))⟩ (by simp only; omega) (by simp) (.refl _) | (exfalso; omega)
  have h91:(9:Int)<=i:=by omega
  have hc1:(c.toNat:Int)<=1:=by omega
  repeat' (first 
   | (with_reducible refine Does.xcall (k3p _ _ _ _ hb) ?_)
   | (with_reducible refine Rets.xcall (k4s _ _) ?_)
   | (with_reducible refine And.intro (fun h=>?_) (fun h=>?_)) <;> (try (exfalso; omega))
   | ((with_reducible refine q5r ?_ fun hk=>?_); omega)
   | (simp -dsimp -implicitDefEqProofs [*]))
  all_goals first | exact .same (NumP.yes (eL.out (by omega))) | exact Next.intro (i+1,w,r) ⟨(eN.out (by omega))⟩ (by simp only; omega) (by simp) (.refl _) | (exfalso; omega)
open Go.Pv Go.Pv.Cd
set_option maxRecDepth 100000
set_option maxHeartbeats 4000000
theorem j8u (x:Nat)(h:x<18446744073709551616):x ^^^ 18446744073709551615=18446744073709551615-x:=by
 have h1:(BitVec.ofNat 64 x ^^^ BitVec.allOnes 64).toNat=18446744073709551615-x:=by
  rw [BitVec.xor_allOnes,BitVec.toNat_not,BitVec.toNat_ofNat,Nat.mod_eq_of_lt (by simpa using h)]
 rw [BitVec.toNat_xor,BitVec.toNat_allOnes,BitVec.toNat_ofNat,Nat.mod_eq_of_lt (by simpa using h)] at h1
 exact h1
theorem j8v (u:Nat)(hu:u<18446744073709551616):IntKind.i64.wrap (((IntKind.i64.wrap ((u:Int).fdiv (2 ^ min 1 IntKind.u64.bits)) % 2 ^ IntKind.i64.bits).toNat ^^^ (IntKind.i64.wrap (-IntKind.i64.wrap (IntKind.u64.wrap ((u % 2 ^ IntKind.u64.bits &&& 1 % 2 ^ IntKind.u64.bits:Nat):Int))) % 2 ^ IntKind.i64.bits).toNat:Nat):Int)=zag u:=by
 have b1:IntKind.u64.bits=64:=rfl
 have b2:IntKind.i64.bits=64:=rfl
 have e1:(u:Int).fdiv (2 ^ min 1 64)=((u / 2:Nat):Int):=by
  rw [show (2:Int) ^ min 1 64=2 from rfl,Int.fdiv_eq_ediv_of_nonneg _ (by decide)]
  exact (Int.natCast_ediv u 2).symm
 have e2:u % 2 ^ 64 &&& 1 % 2 ^ 64=u % 2:=by
  rw [Nat.mod_eq_of_lt (show u<2 ^ 64 by omega)]
  exact Nat.and_one_is_mod u
 have w64:∀ n:Nat,n<18446744073709551616->IntKind.u64.wrap (n:Int)=n:=fun n h=>by simp [IntKind.wrap,IntKind.bits,IntKind.signed]; omega
 rw [b1,b2,e1,e2,w64 (u % 2) (by omega),q5i (n:=((u / 2:Nat):Int)) (by omega) (by omega),q5i (n:=((u % 2:Nat):Int)) (by omega) (by omega),q5i (n:=-((u % 2:Nat):Int)) (by omega) (by omega)]
 have e3:(((u / 2:Nat):Int) % 2 ^ 64).toNat=u / 2:=by omega
 rw [e3]
 unfold zag
 by_cases h:u % 2=1
 ·rw [if_pos h,h]
  have e4:((-((1:Nat):Int)) % 2 ^ 64).toNat=18446744073709551615:=by decide
  rw [e4,j8u _ (by omega)]
  have:IntKind.i64.wrap ((18446744073709551615-u / 2:Nat):Int)=-((u / 2:Nat):Int)-1:=by
   have:=IntKind.i64.wrap
   unfold IntKind.wrap
   simp [IntKind.bits,IntKind.signed]
   omega
  exact this
 ·rw [if_neg h]
  have h0:u % 2=0:=by omega
  rw [h0]
  have e4:((-((0:Nat):Int)) % 2 ^ 64).toNat=0:=by decide
  rw [e4,Nat.xor_zero,q5i (by omega) (by omega)]
theorem z9b (u:Nat)(hu:u<18446744073709551616)(st:q5c):Rets P F.q4l [.val (.int .u64 (u:Nat))] st (.int (zag u)):=by
 refine H.q4l.pure q5l rfl rfl ?_
 repeat' (simp -dsimp -implicitDefEqProofs [*])
 exact j8v u hu
def y45 (L:List (BitVec 8)):Option (Nat × List (BitVec 8)):=match k0u 0 L with
 | some (u,r)=>if u<=r.length then some (u,r) else none
 | none=>none
def j8w (L:List (BitVec 8))(b:Nat)(st:q5c)(e:PEnd)(s:q5c):Prop:=match y45 L with
 | some (u,r)=>e=.ret (.int (u:Nat))/\s=(b,rdO r)::st
 | none=>e=.panic q8s/\s=st
theorem z9c (L:List (BitVec 8))(hL:L.length<=100000)(b:Nat)(st:q5c)(hb:q50 st b):PCalls P F.q2f [.ptr b 0] ((b,rdO L)::st) (j8w L b st):=by
 have n:=fun st hb=>k9n L hL b st hb
 refine H.q2f.view q5l rfl rfl ?_
 repeat' (simp -dsimp -implicitDefEqProofs [*])
 refine q5h (n _ hb) ?_
 clear n
 intro e s h
 unfold NumP at h
 cases hn:k0u 0 L with
 | none=>
  rw [hn] at h
  obtain⟨h1,h2⟩:=h
  obtain rfl:=h1.symm
  obtain rfl:st=s:=h2.symm
  have hp:j8w L b st (.panic q8s) st:=by unfold j8w y45; rw [hn]; exact⟨rfl,rfl⟩
  clear hn
  repeat' (simp -dsimp -implicitDefEqProofs [*])
  exact .same hp
 | some q=>
  obtain⟨u,r⟩:=q
  rw [hn] at h
  obtain⟨rfl,rfl⟩:=h
  have hi:=q70 0 L u r hn
  have hu:u<18446744073709551616:=by have:=hi.2.2 (by omega); omega
  have hr:r.length<=100000:=by
   have:=congrArg List.length hi.1
   rw [List.length_append] at this
   omega
  have hwl:IntKind.u64.wrap (r.length:Int)=r.length:=by simp [IntKind.wrap,IntKind.bits,IntKind.signed]; omega
  by_cases hl:u<=r.length
  ·have hp:Hid (j8w L b st (.ret (.int (u:Nat))) ((b,rdO r)::st)):=⟨by unfold j8w y45; simp [hn,hl]⟩
   have hwu:IntKind.i64.wrap (u:Int)=u:=q5i (by omega) (by omega)
   clear hn hi
   repeat' (first 
    | (with_reducible refine Rets.xcall (k4s _ _) ?_)
    | (simp -dsimp -implicitDefEqProofs [*]))
   exact .same hp.out
  ·have hp:Hid (j8w L b st (.panic q8s) st):=⟨by unfold j8w y45; simp [hn,hl]⟩
   clear hn hi
   repeat' (first 
    | (with_reducible refine Panics.xcall (k4t _ _) ?_)
    | (simp -dsimp -implicitDefEqProofs [*]))
   exact RetView.drop (st':=st) q5m hp.out
open Go.Pv Go.Pv.Sha
set_option maxRecDepth 100000
set_option maxHeartbeats 4000000
def j5v (st:q5c)(L:List (BitVec 8))(e:PEnd)(s:q5c):Prop:=∃ o:Option (Acc (BitVec 8)),accOk q5k 1 st o/\q5u o=L/\e=.ret (q7n o)/\s=q6c T.uint8 st o
def k0v (n:Nat):List (BitVec 8):=if n<128 then [BitVec.ofNat 8 n] else BitVec.ofNat 8 (n % 128+128)::k0v (n / 128)
theorem k6s {n:Nat}(h:n<128):k0v n=[BitVec.ofNat 8 n]:=by rw [k0v,if_pos h]
theorem k9o {n:Nat}(h:¬ n<128):k0v n=BitVec.ofNat 8 (n % 128+128)::k0v (n / 128):=by rw [k0v,if_neg h]
theorem k5t (v:Nat):PV.val (.int .u8 (IntKind.u8.wrap (v:Int)))=bv (BitVec.ofNat 8 v):=by
 rw [z3p,BitVec.ofInt_natCast]
theorem v12:∀ x,x<256->x ||| 128=x % 128+128:=by decide
theorem j8x (v:Nat):(IntKind.u8.wrap (v:Int) % 2 ^ IntKind.u8.bits).toNat=v % 256:=by
 rw [z3p,BitVec.ofInt_natCast]
 have e:IntKind.u8.bits=8:=rfl
 rw [e]
 show (((BitVec.ofNat 8 v).toNat:Int) % 2 ^ 8).toNat=_
 rw [BitVec.toNat_ofNat]
 omega
theorem y2j (v:Nat):PV.val (.int .u8 (IntKind.u8.wrap (((IntKind.u8.wrap (v:Int) % 2 ^ IntKind.u8.bits).toNat ||| 128 % 2 ^ IntKind.u8.bits:Nat):Int)))=bv (BitVec.ofNat 8 (v % 128+128)):=by
 rw [k5t,j8x]
 have e:128 % 2 ^ IntKind.u8.bits=128:=rfl
 rw [e,v12 _ (by omega)]
 congr 2
 omega
theorem v13 (n:Nat)(hn:n<1000000000000):IntKind.u64.wrap (((IntKind.u64.wrap (IntKind.u64.wrap (n:Int)*2 ^ min 1 IntKind.u64.bits) % 2 ^ IntKind.u64.bits).toNat ^^^ (IntKind.u64.wrap ((n:Int).fdiv (2 ^ min 63 IntKind.i64.bits)) % 2 ^ IntKind.u64.bits).toNat:Nat):Int)=2*(n:Int):=by
 have e1:min 1 IntKind.u64.bits=1:=rfl
 have e2:min 63 IntKind.i64.bits=63:=rfl
 have e3:IntKind.u64.bits=64:=rfl
 rw [e1,e2,e3,q7g (n:=(n:Int)) (by omega) (by omega),q7g (n:=(n:Int)*2 ^ 1) (by omega) (by omega)]
 have e4:(n:Int).fdiv (2 ^ 63)=0:=by rw [Int.fdiv_eq_ediv_of_nonneg _ (by decide)]; omega
 rw [e4,q7g (n:=0) (by omega) (by omega)]
 have e5:((0:Int) % 2 ^ 64).toNat=0:=rfl
 have e6:(((n:Int)*2 ^ 1) % 2 ^ 64).toNat=2*n:=by omega
 rw [e5,e6,Nat.xor_zero,q7g (by omega) (by omega)]
 omega
theorem j1g:∀ (k n:Nat),n<128 ^ (k+1)->(k0v n).length<=k+1
 | 0,n,h=>by rw [k6s (by simpa using h)]; simp
 | k+1,n,h=>by
  by_cases hn:n<128
  ·rw [k6s hn]; simp
  ·rw [k9o hn,List.length_cons]
   have:=j1g k (n / 128) (by rw [Nat.div_lt_iff_lt_mul (by decide)]; rw [Nat.pow_succ] at h; exact h)
   omega
theorem q63 {n:Nat}(h:n<18446744073709551616):(k0v n).length<=10:=j1g 9 n (by
 have:(128:Nat) ^ (9+1)=1180591620717411303424:=by decide
 omega)
theorem k7h (u:Nat)(hu:u<18446744073709551616)(o:Option (Acc (BitVec 8)))(st:q5c)(ho:accOk q5k 1 st o)(hol:(q5u o).length<=10000000):PCalls P F.q4c [q7n o,.val (.int .u64 (u:Int))] (q6c T.uint8 st o) (j5v st (q5u o++k0v u)):=by
 refine H.q4c.view q5l rfl rfl ?_
 repeat' (simp -dsimp -implicitDefEqProofs [-q5d, *])
 refine q5e (fun y:Nat × Option (Acc (BitVec 8))=>[(0,q7n y.2),(1,.val (.int .u64 (y.1:Int)))]) (fun y=>q6c T.uint8 st y.2) (fun y=>y.1<18446744073709551616/\accOk q5k 1 st y.2/\q5u y.2++k0v y.1=q5u o++k0v u) (fun y=>y.1) (u,o) ⟨hu,ho,rfl⟩ (by simp) (.refl _) ?_
 rintro⟨v,q⟩ ⟨hv,hq,hql⟩
 simp only at hv hq hql
 have hqn:Hid ((q5u q).length<=10000010):=⟨by have h1:=congrArg List.length hql; rw [List.length_append,List.length_append] at h1; have h2:=q63 hu; omega⟩
 have hb:=k5t v
 have hb2:=y2j v
 by_cases h128:v<128
 ·rw [k6s h128] at hql
  have h:¬ (128:Int)<=v:=by omega
  have kl:Hid (q5u q++[BitVec.ofNat 8 v]=q5u o++k0v u):=⟨hql⟩
  clear hql
  generalize BitVec.ofNat 8 v=x at *
  repeat' (first 
   | (with_reducible refine Lit.imm ?_)
   | (simp -dsimp -implicitDefEqProofs [-q5d, *]))
  refine q8r q6o q5w q hq [x] rfl rfl (by have:=hqn.out; omega) fun o' ho' hl'=>?_
  have kl':Hid (q5u o'=q5u o++k0v u):=⟨by rw [hl',kl.out]⟩
  clear hl' kl
  repeat' (simp -dsimp -implicitDefEqProofs [-q5d, *])
  exact .same ⟨o',ho',kl'.out,rfl,rfl⟩
 ·rw [k9o h128] at hql
  have h:(128:Int)<=v:=by omega
  have hsh:(v:Int).fdiv (2 ^ min 7 IntKind.u64.bits)=((v / 128:Nat):Int):=by
   have e:min 7 IntKind.u64.bits=7:=rfl
   rw [e,Int.fdiv_eq_ediv_of_nonneg _ (by decide)]
   simp
  have kl:Hid (q5u q++BitVec.ofNat 8 (v % 128+128)::k0v (v / 128)=q5u o++k0v u):=⟨hql⟩
  clear hql hb
  generalize BitVec.ofNat 8 (v % 128+128)=x at *
  repeat' (first 
   | (with_reducible refine Lit.imm ?_)
   | (simp -dsimp -implicitDefEqProofs [-q5d, *]))
  refine q8r q6o q5w q hq [x] rfl rfl (by have:=hqn.out; omega) fun o' ho' hl'=>?_
  have kl':Hid (q5u o'++k0v (v / 128)=q5u o++k0v u):=⟨by rw [hl',<-kl.out]; simp⟩
  clear hl' kl
  repeat' (simp -dsimp -implicitDefEqProofs [-q5d, *])
  exact Next.intro (v / 128,o') ⟨by simp only; omega,ho',kl'.out⟩ (by simp only; omega) (by simp) q5m
theorem z30 (n:Nat)(hn:n<1000000000000)(st:q5c):Rets P F.q4d [.int (n:Int)] st (.val (.int .u64 ((2*n:Nat):Int))):=by
 refine H.q4d.pure q5l rfl rfl ?_
 have hu:=v13 n hn
 repeat' (simp -dsimp -implicitDefEqProofs [*])
open Go.Pv Go.Pv.Sha
set_option maxRecDepth 100000
set_option maxHeartbeats 4000000
abbrev q6y:PV:=.val (.string ⟨#[]⟩)
abbrev j3t (n:Nat):List PV:=[.int 1,.int (n:Int),q6y,.nil]
abbrev y2k (s:ByteArray):List PV:=[.int 2,.int 0,.str s,.nil]
abbrev q9o (rows:List PV)(n:Nat):List PV:=[.int 3,.int 0,q6y,.list false rows n]
def accB {α:Type}:Option (Acc α)->List Nat
 | none=>[]
 | some a=>[a.b]
theorem Cls_box {α:Type}{T:TypeId}{b:Nat}{x:PObj}{st:q5c}(o:Option (Acc α)):Cls ((b,x)::q6c T st o) (accB o) ((b,x)::st):=by
 cases o with
 | none=>exact Cls.self _ _
 | some a=>
  refine j0t fun c hc y hy=>?_
  have h:¬ c=a.b:=by simpa [accB] using hc
  have h2:¬ a.b=c:=fun e=>h e.symm
  simpa [q6c,q55,h,h2] using hy
theorem accB_new {α:Type}{T:TypeId}{b:Nat}{st:q5c}{o:Option (Acc α)}(h:q50 (q6c T st o) b):b ∉ accB o/\q50 st b:=by
 cases o with
 | none=>exact⟨by simp [accB],h⟩
 | some a=>exact⟨by simpa [accB] using h.1.2,h.2⟩
theorem xappend_box {α:Type}{row:List α->List PV}{k:Nat}(hrl:∀ l,(row l).length=l.length*k)(hra:∀ l m,row (l++m)=row l++row m){T T':TypeId}{bytes b:Nat}{R:List PV}{st:q5c}{K:PV->q5c->Prop}
  (o:Option (Acc α)) (ho:accOk row k st o) (hb:q50 (q6c T st o) b) (xs:List α) {new:List PV} {m:Nat} (hnew:row xs=new) (hm:xs.length=m) (hm0:0<m) (hsz:((q5u o).length+m)*bytes<=140737488355328)
  (h:∀ o':Option (Acc α),accOk row k ((b,.arr T' R)::st) o'->q5u o'=q5u o++xs->K (q7n o') (q6c T ((b,.arr T' R)::st) o')):q61 T bytes k (q7n o) new m ((b,.arr T' R)::q6c T st o) K:=
 k7e (row':=fun _:List Unit=>[]) (k':=R.length) (T':=T') hrl hra o (some ⟨[],b,1,R⟩) ho ⟨⟨by simp,by simp,by simp,by simp⟩,hb⟩ xs hnew hm hm0 hsz h
theorem StLe.box {α:Type}{T:TypeId}{b:Nat}{x:PObj}{st:q5c}(o:Option (Acc α))(hb:q50 st b):StLe (q6c T st o) (q6c T ((b,x)::st) o):=by
 cases o with
 | none=>exact .fresh hb
 | some a=>exact k1a (.fresh hb)
theorem accOk.unbox {α:Type}{row:List α->List PV}{k:Nat}{b:Nat}{x:PObj}{st:q5c}{o:Option (Acc α)}(h:accOk row k ((b,x)::st) o):accOk row k st o:=by
 cases o with
 | none=>trivial
 | some a=>exact⟨h.1,h.2.2⟩
theorem z31 (n:Nat)(hn:n<1000000000000)(o:Option (Acc (BitVec 8)))(st:q5c)(ho:accOk q5k 1 st o)(hol:(q5u o).length<=1000000):PCalls P F.q2l [q7n o,.agg (j3t n)] (q6c T.uint8 st o) (j5v st (q5u o++(1#8::k0v (2*n)))):=by
 refine H.q2l.view q5l rfl rfl ?_
 have hu:=fun st=>z30 n hn st
 repeat' (first 
  | (with_reducible refine Fresh.intro fun b hb=>?_) <;> (try simp -dsimp -implicitDefEqProofs [*] at hb)
  | (simp -dsimp -implicitDefEqProofs [-q5d, *]))
 revert b
 intro b hb
 obtain⟨hnb,hns⟩:=accB_new hb
 refine DrawLate.by (Cls ((b,.arr T.apiValue (j3t n))::q6c T.uint8 st o) (accB o)) (Cls.self _ _) ?_
 repeat' (simp -dsimp -implicitDefEqProofs [-q5d, *])
 refine xappend_box q6o q5w o ho hb [1#8] rfl rfl (by omega) (by omega) fun o1 ho1 hl1=>?_
 have hcl:=q6h (T:=T.uint8) ho1 (Cls_box (T:=T.uint8) (b:=b) (x:=.arr T.apiValue (j3t n)) (st:=st) o)
 refine⟨hcl, ?_⟩
 have kl:Hid (q5u o1=q5u o++[1#8]):=⟨hl1⟩
 clear hl1
 repeat' (first 
  | (with_reducible refine Rets.xcall (hu _) ?_)
  | (simp -dsimp -implicitDefEqProofs [-q5d, *]))
 refine q5h (k7h (2*n) (by omega) o1 _ ho1 (by rw [kl.out]; simp; omega)) ?_
 rintro e s ⟨o2,ho2,hl2,rfl,rfl⟩
 rw [q5v]
 have kl2:Hid (q5u o2=q5u o++1#8::k0v (2*n)):=⟨by rw [hl2,kl.out]; simp⟩
 clear hl2 kl hcl
 have hcl:=q6h (T:=T.uint8) ho2 (Cls_box (T:=T.uint8) (b:=b) (x:=.arr T.apiValue (j3t n)) (st:=st) o)
 refine⟨hcl, ?_⟩
 clear hcl
 repeat' (simp -dsimp -implicitDefEqProofs [-q5d, *])
 exact .drop (StLe.box o2 hns) ⟨o2,accOk.unbox ho2,kl2.out,rfl,rfl⟩
end Go.Proofs.YtmlmoaimjifpgaaGreat
