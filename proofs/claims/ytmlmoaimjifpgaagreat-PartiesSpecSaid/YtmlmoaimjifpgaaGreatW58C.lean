/- Delivering, losing, repeating. -/
import Derived.Test.YtmlmoaimjifpgaaGreatN58E
import Derived.Test.YtmlmoaimjifpgaaGreatC58G
namespace Go.Proofs.YtmlmoaimjifpgaaGreat
open Go.Pv
set_option maxRecDepth 100000
set_option maxHeartbeats 8000000
theorem PLeV.tuple3 {p q r p' q' r':PV}(h1:PLe p p')(h2:PLe q q')(h3:PLe r r'):PLe (.tuple [p,q,r]) (.tuple [p',q',r']):=fun I v h=>by
 simp only [vrep] at h ⊢
 obtain⟨vs,h4,h5⟩:=h
 match vs,h5 with
 | [a,b,c],h5=>
  simp only [vreps] at h5
  exact⟨[a,b,c],h4,by simp only [vreps]; exact⟨h1 I _ h5.1,h2 I _ h5.2.1,h3 I _ h5.2.2.1,trivial⟩⟩
open Go.Pv
set_option maxRecDepth 100000
set_option maxHeartbeats 8000000
abbrev okN (n:Note):Prop:=q5q n=true
theorem k51 {l:List Note}{i:Nat}(hi:i<l.length)(h:Rise q6p okN (l.take i))(ho:okN l[i])(hc:0<i->∀ h:i-1<l.length,q6p l[i-1] l[i]<0):Rise q6p okN (l.take (i+1)):=by
 rw [List.take_succ_eq_append_getElem hi]
 refine⟨fun x hx=>?_,List.pairwise_append.2 ⟨h.2,List.pairwise_singleton ..,fun a ha b hb=>?_⟩⟩
 ·rcases List.mem_append.1 hx with hx | hx
  ·exact h.1 x hx
  ·rw [List.mem_singleton.1 hx]; exact ho
 ·rw [List.mem_singleton.1 hb]
  obtain⟨k,hk,rfl⟩:=List.mem_iff_getElem.1 ha
  rw [List.length_take] at hk
  rw [List.getElem_take]
  have hl:=hc (by omega) (by omega)
  by_cases e:k=i-1
  ·subst e; exact hl
  ·have hp:=List.pairwise_iff_getElem.1 h.2 k (i-1) (by rw [List.length_take]; omega) (by rw [List.length_take]; omega) (by omega)
   rw [List.getElem_take,List.getElem_take] at hp
   exact cmpN_ord.trans _ _ _ hp hl
theorem j5t {l:List Note}(h:Rise q6p okN l){i:Nat}(h0:0<i)(hi:i<l.length):q6p (l[i-1]'(by omega)) l[i]<0:=
 List.pairwise_iff_getElem.1 h.2 (i-1) i (by omega) hi (by omega)
theorem k2i (l:List Note)(hl:l.length<=100000)(r:Bool)(hr:r=true ↔ Rise q6p okN l/\l.length<=4096)(st:q5f):Rets P F.q3s [.agg [Note.lst false l]] st (.bool r):=by
 have hno:Hid (¬ Rise q6p okN l->r=false):=⟨fun h=>by
  rw [<-Bool.not_eq_true]
  exact fun h2=>h (hr.1 h2).1⟩
 have hye:Hid (Rise q6p okN l->r=decide ((l.length:Int)<=4096)):=⟨fun h=>by
  rw [Bool.eq_iff_iff,hr,decide_eq_true_eq]
  exact⟨fun h2=>by omega,fun h2=>⟨h,by omega⟩⟩⟩
 clear hr
 refine H.q3s.view q5n rfl rfl ?_
 repeat' (first 
  | (with_reducible refine Fresh.intro fun b hb=>?_) <;> (try simp -dsimp -implicitDefEqProofs [*] at hb)
  | (simp -dsimp -implicitDefEqProofs [*]))
 refine q5h (fun i:Nat=>[(1,.ptr b 0),(2,.bool false),(6,Note.lst false l),(7,.int l.length),(8,.int i)]) (fun _=>(b,.arr T.apiPeer [Note.lst false l])::st) (fun i=>i<=l.length/\Hid (Rise q6p okN (l.take i))) (fun i=>l.length-i) 0 ⟨Nat.zero_le _,⟨.nil⟩⟩ (by simp) (.refl _) ?_
 rintro i ⟨hi,hI⟩
 by_cases hil:i<l.length
 case neg=>
  obtain rfl:i=l.length:=by omega
  have hR:=hI.out
  rw [List.take_length] at hR
  have e:=hye.out hR
  rw [e]
  clear hR e hye hno hI
  repeat' (simp -dsimp -implicitDefEqProofs [*])
  all_goals exact RetView.drop (st':=st) q5o ⟨rfl,rfl⟩
 have hwi:=q5i (n:=i) (by omega)
 have hs:=Note.row_sub l i hil
 have hrl:=Note.row_len l
 have f:=fun st=>k2g l[i] st
 cases hf:q5q l[i] with
 | false=>
  rw [hf] at f
  have e:=hno.out fun h=>by
   have:=h.1 _ (List.getElem_mem hil)
   unfold okN at this
   rw [hf] at this
   cases this
  subst e
  clear hye hno hI hf
  generalize l[i]=x at *
  repeat' (first 
   | (with_reducible refine Fresh.intro fun b hb=>?_) <;> (try simp -dsimp -implicitDefEqProofs [*] at hb)
   | (with_reducible refine Rets.xcall (f _) ?_)
   | (with_reducible refine DrawLate.intro [] ?_)
   | (simp -dsimp -implicitDefEqProofs [*]))
  all_goals exact RetView.drop (st':=st) q5o ⟨rfl,rfl⟩
 | true=>
  rw [hf] at f
  by_cases h0:i=0
  ·subst h0
   have e:=Hid.mk (k51 hil hI.out hf (fun h=>absurd h (Nat.lt_irrefl 0)))
   clear hye hf hI
   have hw0:IntKind.i64.wrap 1=1:=rfl
   generalize l[0]=x at *
   repeat' (first 
    | (with_reducible refine Fresh.intro fun b hb=>?_) <;> (try simp -dsimp -implicitDefEqProofs [*] at hb)
    | (with_reducible refine Rets.xcall (f _) ?_)
    | (with_reducible refine DrawLate.intro [] ?_)
    | (simp -dsimp -implicitDefEqProofs [*]))
   all_goals exact Next.intro 1 ⟨by omega,e⟩ (by omega) (by simp) q5o
  ·have hi1:i-1<l.length:=by omega
   have hw1:IntKind.i64.wrap ((i:Int)-1)=((i-1:Nat):Int):=by rw [q5l (by omega) (by omega)]; omega
   have hp:0<i:=by omega
   have hs1:=Note.row_sub l (i-1) hi1
   have hf1:q5q l[i-1]=true:=hI.out.1 _ (by
    have h2:i-1<(l.take i).length:=by rw [List.length_take]; omega
    have:=List.getElem_mem h2
    rwa [List.getElem_take] at this)
   have c:=fun st=>k3c l[i-1] l[i] hf1 hf st
   by_cases hc:q6p l[i-1] l[i]<0
   ·have e:=Hid.mk (k51 hil hI.out hf (fun _ _=>hc))
    have hc2:¬ 0<=q6p l[i-1] l[i]:=by omega
    clear hye hno hf hf1 hI hc
    generalize q6p l[i-1] l[i]=n at *
    generalize l[i-1]=y at *
    generalize l[i]=x at *
    repeat' (first 
     | (with_reducible refine Fresh.intro fun b hb=>?_) <;> (try simp -dsimp -implicitDefEqProofs [*] at hb)
     | (with_reducible refine Rets.xcall (f _) ?_)
     | (with_reducible refine Rets.xcall (c _) ?_)
     | (with_reducible refine DrawLate.intro [] ?_)
     | (simp -dsimp -implicitDefEqProofs [*]))
    all_goals exact Next.intro (i+1) ⟨by omega,e⟩ (by omega) (by simp) q5o
   ·have e:=hno.out fun h=>hc (j5t h (by omega) hil)
    have hc2:0<=q6p l[i-1] l[i]:=by omega
    subst e
    clear hye hno hf hf1 hI hc
    generalize q6p l[i-1] l[i]=n at *
    generalize l[i-1]=y at *
    generalize l[i]=x at *
    repeat' (first 
     | (with_reducible refine Fresh.intro fun b hb=>?_) <;> (try simp -dsimp -implicitDefEqProofs [*] at hb)
     | (with_reducible refine Rets.xcall (f _) ?_)
     | (with_reducible refine Rets.xcall (c _) ?_)
     | (with_reducible refine DrawLate.intro [] ?_)
     | (simp -dsimp -implicitDefEqProofs [*]))
    all_goals exact RetView.drop (st':=st) q5o ⟨rfl,rfl⟩
open Go.Pv Go.Pv.Cd
set_option maxRecDepth 100000
set_option maxHeartbeats 4000000
abbrev rdR (L:List (BitVec 8))(a:Nat)(bad:Bool):PObj:=.arr T.q5c [q53 false L,.int (a:Int),.bool bad]
theorem z6n (L:List (BitVec 8))(a:Nat)(c:BitVec 8)(h:L[a]?=some c)(hL:L.length<=100000)(b:Nat)(st:q5f)(hb:q54 st b):Does P F.q0v [.ptr b 0] ((b,rdR L a false)::st) (bv c) ((b,rdR L (a+1) false)::st):=by
 have hl:a<L.length:=(List.getElem?_eq_some_iff.1 h).1
 have hw:=q5i (n:=a) (by omega)
 have hw2:IntKind.i64.wrap (a:Int)=a:=q5l (by omega) (by omega)
 have G:=q6v h
 refine H.q0v.view q5n rfl rfl ?_
 repeat' (first 
  | (with_reducible refine And.intro (fun h=>?_) ?_) <;> (try (exfalso; omega))
  | (simp -dsimp -implicitDefEqProofs [*]))
 exact .same ⟨rfl,by simp⟩
theorem z3v (L:List (BitVec 8))(hL:L.length<=100000)(b:Nat)(st:q5f)(hb:q54 st b):Does P F.q0v [.ptr b 0] ((b,rdR L L.length false)::st) (bv 0#8) ((b,rdR L L.length true)::st):=by
 refine H.q0v.view q5n rfl rfl ?_
 repeat' (simp -dsimp -implicitDefEqProofs [*])
 exact .same ⟨rfl,rfl⟩
def NumR (L:List (BitVec 8))(a b:Nat)(st:q5f)(e:PEnd)(s:q5f):Prop:=match k05 0 (L.drop a) with
 | some (u,r)=>∃ a',a'<=L.length/\L.drop a'=r/\e=.ret (.val (.int .u64 (u:Nat)))/\s=(b,rdR L a' false)::st
 | none=>∃ a',a'<=L.length/\e=.ret (.val (.int .u64 0))/\s=(b,rdR L a' true)::st
theorem NumR.no {L:List (BitVec 8)}{a a' b:Nat}{st:q5f}(h:k05 0 (L.drop a)=none)(ha:a'<=L.length):NumR L a b st (.ret (.val (.int .u64 0))) ((b,rdR L a' true)::st):=by
 unfold NumR
 rw [h]
 exact⟨a',ha,rfl,rfl⟩
theorem NumR.yes {L r:List (BitVec 8)}{a a' b u:Nat}{st:q5f}(h:k05 0 (L.drop a)=some (u,r))(ha:a'<=L.length)(hr:L.drop a'=r):NumR L a b st (.ret (.val (.int .u64 (u:Nat)))) ((b,rdR L a' false)::st):=by
 unfold NumR
 rw [h]
 exact⟨a',ha,hr,rfl,rfl⟩
theorem j5u {u i c:Nat}(hi:i<=9)(hu:u<128 ^ i)(hc:c<256)(h9:i<9\/c<=1){k:Int}(hk:IntKind.i64.wrap k=7*(i:Int)) :
  IntKind.u64.wrap ((u:Int)+IntKind.u64.wrap (IntKind.u64.wrap ((c:Int).tmod 128)*2 ^ min (IntKind.i64.wrap k).toNat IntKind.u64.bits))=((u+c % 128*128 ^ i:Nat):Int):=by
 have b64:IntKind.u64.bits=64:=rfl
 have w64:∀ n:Nat,n<18446744073709551616->IntKind.u64.wrap (n:Int)=n:=fun n h=>by simp [IntKind.wrap,IntKind.bits,IntKind.signed]; omega
 have h1:c % 128<128:=Nat.mod_lt _ (by decide)
 have e1:(c:Int).tmod 128=((c % 128:Nat):Int):=by rw [Int.tmod_eq_emod_of_nonneg (by omega)]; omega
 have e2:min (7*(i:Int)).toNat 64=7*i:=by omega
 have e3:(2:Nat) ^ (7*i)=128 ^ i:=(j43 i).symm
 have p8:128 ^ i<=128 ^ 9:=Nat.pow_le_pow_right (by decide) hi
 have e9:(128:Nat) ^ 9=9223372036854775808:=by decide
 have hy:u+c % 128*128 ^ i<18446744073709551616:=by
  rcases h9 with h | h
  ·have q1:128 ^ i<=128 ^ 8:=Nat.pow_le_pow_right (by decide) (by omega)
   have q2:c % 128*128 ^ i<=127*128 ^ 8:=Nat.mul_le_mul (by omega) q1
   have q3:(127:Nat)*128 ^ 8=9151314442816847872:=by decide
   omega
  ·have q2:c % 128*128 ^ i<=1*128 ^ 9:=Nat.mul_le_mul (by omega) p8
   omega
 have cp:(2:Int) ^ (7*i)=((128 ^ i:Nat):Int):=by rw [<-e3]; exact (Int.natCast_pow 2 (7*i)).symm
 rw [hk,b64,e1,e2,w64 (c % 128) (by omega),cp,<-Int.natCast_mul,w64 (c % 128*128 ^ i) (by omega),<-Int.natCast_add,w64 _ hy]
theorem z6o (L:List (BitVec 8))(hL:L.length<=100000)(a:Nat)(ha:a<=L.length)(b:Nat)(st:q5f)(hb:q54 st b):PCalls P F.q1d [.ptr b 0] ((b,rdR L a false)::st) (NumR L a b st):=by
 refine H.q1d.view q5n rfl rfl ?_
 have h0:=Hid.mk (NumI.zero (L.drop a))
 repeat' (simp -dsimp -implicitDefEqProofs [*])
 refine q5h (fun y:Nat × Nat × Nat=>[(0,.ptr b 0),(3,.val (.int .u64 (y.2.1:Nat))),(4,.int y.1)]) (fun y=>(b,rdR L y.2.2 false)::st) (fun y=>y.2.2<=L.length/\Hid (NumI (L.drop a) y.1 y.2.1 (L.drop y.2.2))) (fun y=>10-y.1) (0,0,a) ⟨ha,h0⟩ (by simp) (.refl _) ?_
 clear h0
 rintro⟨i,u,p⟩ ⟨hp,hI⟩
 replace hp:p<=L.length:=hp
 replace hI:Hid (NumI (L.drop a) i u (L.drop p)):=hI
 simp only
 by_cases hpl:p<L.length
 case neg=>
  obtain rfl:p=L.length:=by omega
  have hn:=hI.out
  rw [List.drop_length] at hn
  have e:=Hid.mk (NumR.no (b:=b) (st:=st) hn.nil hp)
  have hd:=hn.dig
  have hu:=hn.low
  clear hn hI
  have hbv:bv 0#8=.val (.int .u8 0):=rfl
  by_cases h0:i=0
  ·subst h0
   obtain rfl:u=0:=by have:=hu; omega
   have w00:IntKind.i64.wrap 0=0:=rfl
   have w01:IntKind.u64.wrap 0=0:=rfl
   repeat' (first 
    | (with_reducible refine Does.xcall (z3v L hL _ _ hb) ?_)
    | (simp -dsimp -implicitDefEqProofs [*]))
   exact .same e.out
  ·have hp0:0<i:=by omega
   repeat' (first 
    | (with_reducible refine Does.xcall (z3v L hL _ _ hb) ?_)
    | (simp -dsimp -implicitDefEqProofs [*]))
   all_goals first | exact .same e.out | exact fun _=>.same e.out
 obtain⟨c,hc⟩:∃ c,L[p]?=some c:=⟨_,List.getElem?_eq_getElem hpl⟩
 have hdr:L.drop p=c::L.drop (p+1):=by
  rw [List.drop_eq_getElem_cons hpl,q6v hc]
 rw [hdr] at hI
 have hbv:bv c=.val (.int .u8 (c.toNat:Nat)):=rfl
 have hcl:=c.isLt
 have nx:=fun st hb=>z6n L p c hc hL b st hb
 by_cases ok:(i=0\/c.toNat ≠ 0)/\(i<9\/c.toNat<=1)
 case neg=>
  have e:=Hid.mk fun a' h=>NumR.no (b:=b) (a':=a') (st:=st) (hI.out.bad ok) h
  have hd:=hI.out.dig
  clear hI hc hdr
  by_cases h0:i=0
  ·exfalso; omega
  by_cases hc0:c.toNat=0
  ·by_cases h9:(i:Int)=9
   ·repeat' (first 
     | (with_reducible refine Does.xcall (nx _ hb) ?_)
     | (simp -dsimp -implicitDefEqProofs [*]))
    exact .same (e.out (p+1) hpl)
   ·repeat' (first 
     | (with_reducible refine Does.xcall (nx _ hb) ?_)
     | (simp -dsimp -implicitDefEqProofs [*]))
    exact fun _=>.same (e.out (p+1) hpl)
  ·have h9:¬ (i:Int)<9:=by omega
   have h91:(i:Int)=9:=by omega
   have hc1:(1:Int)<c.toNat:=by omega
   repeat' (first 
    | (with_reducible refine Does.xcall (nx _ hb) ?_)
    | (simp -dsimp -implicitDefEqProofs [*]))
   exact .same (e.out (p+1) hpl)
 have eL:=Hid.mk (hI.out.last ok)
 have eN:=Hid.mk (hI.out.next ok)
 have hd:=hI.out.dig
 have hu:=hI.out.low
 clear hI hc hdr
 have hx:=fun k=>j5u (k:=k) hd hu hcl ok.2
 obtain⟨w,hw⟩:∃ w,w=u+c.toNat % 128*128 ^ i:=⟨_,rfl⟩
 rw [<-hw] at hx eL eN
 have ei:=q5i (n:=i) (by omega)
 by_cases h0:i=0
 ·subst h0
  have hx0:=hx 0 (by decide)
  rw [show (2:Int) ^ min (IntKind.i64.wrap 0).toNat IntKind.u64.bits=1 from rfl,Int.mul_one] at hx0
  clear hx
  have w00:IntKind.i64.wrap 0=0:=rfl
  have e1:IntKind.i64.wrap 1=1:=rfl
  clear hw
  repeat' (first 
   | (with_reducible refine Does.xcall (nx _ hb) ?_)
   | (with_reducible refine And.intro (fun h=>?_) (fun h=>?_)) <;> (try (exfalso; omega))
   | (simp -dsimp -implicitDefEqProofs [*]))
  all_goals first | exact .same (NumR.yes (eL.out (by omega)) (by omega) rfl) | exact Next.intro (1,w,p+1) ⟨by simp only; omega,⟨eN.out (by omega)⟩⟩ (by simp only; omega) (by simp) (.refl _)
 have hc0:¬ c.toNat=0:=by omega
 have hp0:0<i:=by omega
 by_cases h9:(i:Int)=9
 ·have hc1:¬ (1:Int)<c.toNat:=by omega
  have h99:i=9:=by omega
  have hx0:=hx 63 (by subst h99; decide)
  rw [show IntKind.i64.wrap 63=63 from rfl,show min (63:Int).toNat IntKind.u64.bits=63 from rfl,show (2:Int) ^ 63=9223372036854775808 from rfl] at hx0
  clear hx hw
  have e1:IntKind.i64.wrap 10=10:=rfl
  have e2:IntKind.i64.wrap 63=63:=rfl
  have e3:IntKind.u64.bits=64:=rfl
  repeat' (first 
   | (with_reducible refine Does.xcall (nx _ hb) ?_)
   | (with_reducible refine And.intro (fun h=>?_) (fun h=>?_)) <;> (try (exfalso; omega))
   | (simp -dsimp -implicitDefEqProofs [*]))
  all_goals first | exact .same (NumR.yes (eL.out (by omega)) (by omega) rfl) | (intros; omega) | (exfalso; omega)
 replace hx:=hx (7*i) (q5l (by omega) (by omega))
 have e7:0<=IntKind.i64.wrap (7*(i:Int)):=by rw [q5l (by omega) (by omega)]; omega
 clear hw
 repeat' (first 
  | (with_reducible refine Does.xcall (nx _ hb) ?_)
  | (with_reducible refine And.intro (fun h=>?_) (fun h=>?_)) <;> (try (exfalso; omega))
  | (simp -dsimp -implicitDefEqProofs [*]))
 all_goals first | exact .same (NumR.yes (eL.out (by omega)) (by omega) rfl) | exact Next.intro (i+1,w,p+1) ⟨by simp only; omega,⟨eN.out (by omega)⟩⟩ (by simp only; omega) (by simp) (.refl _) | (intros; exact .same (NumR.yes (eL.out (by omega)) (by omega) rfl)) | (intros; omega)
end Go.Proofs.YtmlmoaimjifpgaaGreat
