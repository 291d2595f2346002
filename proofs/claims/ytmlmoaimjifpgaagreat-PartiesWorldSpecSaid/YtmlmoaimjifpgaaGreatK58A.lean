/- Contests, their cells: expressions; how many parts one has, and that it is the same as itself. -/
import Derived.Test.YtmlmoaimjifpgaaGreatN58A
import Derived.Test.YtmlmoaimjifpgaaGreatD58B
namespace Go.Proofs.YtmlmoaimjifpgaaGreat
open Go.Pv
set_option maxRecDepth 100000
set_option maxHeartbeats 4000000
inductive Xp where
 | mk (kind:Int) (name:ByteArray) (n d:Int) (l:List Xp)
instance:Inhabited Xp:=⟨.mk 0 ⟨#[]⟩ 0 0 []⟩
mutual
def Xp.enc:Xp->List PV
 | .mk k s n d l=>[.int k,.str s,.int n,.int d,.list false (Xp.rows l) l.length]
def Xp.rows:List Xp->List PV
 | []=>[]
 | x::l=>x.enc++Xp.rows l
end
mutual
def Xp.size:Xp->Nat
 | .mk _ _ _ _ l=>1+Xp.sizes l
def Xp.sizes:List Xp->Nat
 | []=>0
 | x::l=>x.size+Xp.sizes l
end
theorem Xp.rows_flat:∀ l:List Xp,Xp.rows l=l.flatMap Xp.enc
 | []=>rfl
 | x::l=>by rw [Xp.rows,Xp.rows_flat l,List.flatMap_cons]
@[simp] theorem Xp.len (x:Xp):x.enc.length=5:=by cases x; rfl
theorem Xp.rows_len (l:List Xp):(Xp.rows l).length=l.length*5:=by rw [Xp.rows_flat]; exact q53 Xp.enc 5 Xp.len l
theorem Xp.rows_sub (l:List Xp)(i:Nat)(h:i<l.length):sub (Xp.rows l) (i*5) 5=some (l[i]).enc:=by rw [Xp.rows_flat]; exact q7i Xp.enc 5 Xp.len l i h
theorem Xp.size_pos (x:Xp):0<x.size:=by cases x; rw [Xp.size]; omega
theorem Xp.sizes_len:∀ l:List Xp,l.length<=Xp.sizes l
 | []=>Nat.le_refl _
 | x::l=>by
  have:=Xp.sizes_len l
  have:=x.size_pos
  rw [Xp.sizes,List.length_cons]
  omega
theorem Xp.sizes_mem:∀ {l:List Xp} {x:Xp},x ∈ l->x.size<=Xp.sizes l
 | [],_,h=>nomatch h
 | y::l,x,h=>by
  rw [Xp.sizes]
  rcases List.mem_cons.1 h with rfl | h
  ·omega
  ·have:=Xp.sizes_mem h; omega
theorem Xp.sizes_take:∀ (l:List Xp) (i:Nat) (h:i<l.length),Xp.sizes (l.take (i+1))=Xp.sizes (l.take i)+l[i].size
 | [],i,h=>by simp at h
 | x::l,0,_=>by simp [Xp.sizes]
 | x::l,i+1,h=>by
  have:=Xp.sizes_take l i (by simpa using h)
  rw [List.take_succ_cons,List.take_succ_cons,Xp.sizes,Xp.sizes,this]
  simp only [List.getElem_cons_succ]
  omega
def j6n (x:Xp)(lim:Nat)(st:q5c)(e:PEnd)(s:q5c):Prop:=∃ n:Nat,e=.ret (.int (n:Int))/\s=st/\1<=n/\n<=lim+1/\(n<=lim->x.size<=n)
theorem j3c:∀ (lim:Nat) (x:Xp) (st:q5c),lim<=1000->PCalls P F.q22 [.agg x.enc,.int (lim:Int)] st (j6n x lim st):=by
 intro lim
 induction lim using Nat.strongRecOn with
 | _ lim ih=>
  intro x st hlim
  obtain⟨k,s,n,d,l⟩:=x
  rw [Xp.enc]
  replace ih:=Hid.mk ih
  have hrl:=Xp.rows_len l
  refine H.q22.view q5l rfl rfl ?_
  repeat' (first 
   | (with_reducible refine Fresh.intro fun b hb=>?_) <;> (try simp -dsimp -implicitDefEqProofs [*] at hb)
   | (simp -dsimp -implicitDefEqProofs [*]))
  refine q5e (fun y:Nat × Nat=>[(1,.int lim),(2,.ptr b 0),(5,.int (y.2:Nat)),(6,.int (y.1:Nat))]) (fun _=>(b,.arr T.apiExpr [.int k,.str s,.int n,.int d,.list false (Xp.rows l) l.length])::st)
   (fun y=>y.1<=l.length/\y.1<y.2/\y.2<=lim+1/\Hid (y.2<=lim->1+Xp.sizes (l.take y.1)<=y.2)) (fun y=>l.length-y.1) (0,1) ⟨Nat.zero_le _,Nat.one_pos,by omega,⟨fun _=>Nat.le_refl _⟩⟩ (by simp) (.refl _) ?_
  rintro⟨i,m⟩ ⟨hi,him,hm,hS⟩
  replace hi:i<=l.length:=hi
  replace him:i<m:=him
  replace hm:m<=lim+1:=hm
  replace hS:Hid (m<=lim->1+Xp.sizes (l.take i)<=m):=hS
  simp only
  by_cases hil:i<l.length
  case neg=>
   obtain rfl:i=l.length:=by omega
   have e:j6n (.mk k s n d l) lim st (.ret (.int (m:Int))) st:=⟨m,rfl,rfl,by omega,hm,fun h=>by
    have:=hS.out h
    rw [List.take_length] at this
    rw [Xp.size]
    exact this⟩
   clear hS ih
   repeat' (simp -dsimp -implicitDefEqProofs [*])
   exact .drop (st':=st) q5m e
  by_cases hml:m<=lim
  case neg=>
   have e:j6n (.mk k s n d l) lim st (.ret (.int (m:Int))) st:=⟨m,rfl,rfl,by omega,hm,fun h=>absurd h hml⟩
   clear hS ih
   repeat' (simp -dsimp -implicitDefEqProofs [*])
   exact .drop (st':=st) q5m e
  have hsub:=Xp.rows_sub l i hil
  have hwi:=q5f (n:=i) (by omega)
  have hws:IntKind.i64.wrap ((lim:Int)-m)=((lim-m:Nat):Int):=by rw [q5i (by omega) (by omega)]; omega
  have pc:=fun st=>ih.out (lim-m) (by omega) l[i] st (by omega)
  have hst:=Xp.sizes_take l i hil
  clear ih
  repeat' (simp -dsimp -implicitDefEqProofs [*])
  refine q5h (pc _) ?_
  clear pc
  rintro e s2 ⟨c,rfl,rfl,c1,c2,c3⟩
  rw [q5v]
  have hwc:IntKind.i64.wrap ((m:Int)+c)=((m+c:Nat):Int):=by rw [q5i (by omega) (by omega)]; omega
  have hn:Hid (m+c<=lim->1+Xp.sizes (l.take (i+1))<=m+c):=⟨fun h=>by
   have:=hS.out (by omega)
   have:=c3 (by omega)
   omega⟩
  clear hst hS c3
  repeat' (simp -dsimp -implicitDefEqProofs [*])
  exact Next.intro (i+1,m+c) ⟨by simp only; omega,by simp only; omega,by simp only; omega,hn⟩ (by simp only; omega) (by simp) q5m
theorem z4d:∀ (N:Nat) (x:Xp),x.size<=N->N<=100000->∀ st,Rets P F.q2g [.agg x.enc,.agg x.enc] st (.bool true):=by
 intro N
 induction N with
 | zero=>intro x hx; have:=x.size_pos; omega
 | succ N ih=>
  intro x hx hN st
  obtain⟨k,s,n,d,l⟩:=x
  rw [Xp.enc]
  rw [Xp.size] at hx
  have hll:=Xp.sizes_len l
  have hrl:=Xp.rows_len l
  have sx:=Hid.mk fun (x:Xp) (h:x ∈ l) st=>ih x (by have:=Xp.sizes_mem h; omega) (by omega) st
  clear ih
  refine H.q2g.view q5l rfl rfl ?_
  repeat' (first 
   | (with_reducible refine Fresh.intro fun b hb=>?_) <;> (try simp -dsimp -implicitDefEqProofs [*] at hb)
   | (simp -dsimp -implicitDefEqProofs [*]))
  rename_i b1 hb1
  revert b; intro b2 hb2
  refine q5e (fun i:Nat=>[(2,.ptr b1 0),(3,.ptr b2 0),(5,.int i)]) (fun _=>(b2,.arr T.apiExpr [.int k,.str s,.int n,.int d,.list false (Xp.rows l) l.length])::(b1,.arr T.apiExpr [.int k,.str s,.int n,.int d,.list false (Xp.rows l) l.length])::st) (fun i=>i<=l.length) (fun i=>l.length-i) 0 (Nat.zero_le _) (by simp) (.refl _) ?_
  intro i hi
  by_cases hil:i<l.length
  case neg=>
   obtain rfl:i=l.length:=by omega
   repeat' (simp -dsimp -implicitDefEqProofs [*])
   exact .drop (st':=st) q5m ⟨rfl,rfl⟩
  have hsub:=Xp.rows_sub l i hil
  have hwi:=q5f (n:=i) (by omega)
  have sx1:=fun st=>sx.out l[i] (List.getElem_mem hil) st
  repeat' (first 
   | (with_reducible refine Rets.xcall (sx1 _) ?_)
   | (with_reducible refine DrawLate.intro [] ?_)
   | (simp -dsimp -implicitDefEqProofs [*]))
  exact Next.intro (i+1) (by omega) (by omega) (by simp) q5m
open Go.Pv Go.Pv.Cd
set_option maxRecDepth 100000
set_option maxHeartbeats 4000000
abbrev rdR (L:List (BitVec 8))(a:Nat)(bad:Bool):PObj:=.arr T.q49 [q54 false L,.int (a:Int),.bool bad]
theorem z62 (L:List (BitVec 8))(a:Nat)(c:BitVec 8)(h:L[a]?=some c)(hL:L.length<=100000)(b:Nat)(st:q5c)(hb:q50 st b):Does P F.q0u [.ptr b 0] ((b,rdR L a false)::st) (bv c) ((b,rdR L (a+1) false)::st):=by
 have hl:a<L.length:=(List.getElem?_eq_some_iff.1 h).1
 have hw:=q5f (n:=a) (by omega)
 have hw2:IntKind.i64.wrap (a:Int)=a:=q5i (by omega) (by omega)
 have G:=q6b h
 refine H.q0u.view q5l rfl rfl ?_
 repeat' (first 
  | (with_reducible refine And.intro (fun h=>?_) ?_) <;> (try (exfalso; omega))
  | (simp -dsimp -implicitDefEqProofs [*]))
 exact .same ⟨rfl,by simp⟩
theorem z4e (L:List (BitVec 8))(hL:L.length<=100000)(b:Nat)(st:q5c)(hb:q50 st b):Does P F.q0u [.ptr b 0] ((b,rdR L L.length false)::st) (bv 0#8) ((b,rdR L L.length true)::st):=by
 refine H.q0u.view q5l rfl rfl ?_
 repeat' (simp -dsimp -implicitDefEqProofs [*])
 exact .same ⟨rfl,rfl⟩
def NumR (L:List (BitVec 8))(a b:Nat)(st:q5c)(e:PEnd)(s:q5c):Prop:=match k0u 0 (L.drop a) with
 | some (u,r)=>∃ a',a'<=L.length/\L.drop a'=r/\e=.ret (.val (.int .u64 (u:Nat)))/\s=(b,rdR L a' false)::st
 | none=>∃ a',a'<=L.length/\e=.ret (.val (.int .u64 0))/\s=(b,rdR L a' true)::st
theorem NumR.no {L:List (BitVec 8)}{a a' b:Nat}{st:q5c}(h:k0u 0 (L.drop a)=none)(ha:a'<=L.length):NumR L a b st (.ret (.val (.int .u64 0))) ((b,rdR L a' true)::st):=by
 unfold NumR
 rw [h]
 exact⟨a',ha,rfl,rfl⟩
theorem NumR.yes {L r:List (BitVec 8)}{a a' b u:Nat}{st:q5c}(h:k0u 0 (L.drop a)=some (u,r))(ha:a'<=L.length)(hr:L.drop a'=r):NumR L a b st (.ret (.val (.int .u64 (u:Nat)))) ((b,rdR L a' false)::st):=by
 unfold NumR
 rw [h]
 exact⟨a',ha,hr,rfl,rfl⟩
theorem j6o {u i c:Nat}(hi:i<=9)(hu:u<128 ^ i)(hc:c<256)(h9:i<9\/c<=1){k:Int}(hk:IntKind.i64.wrap k=7*(i:Int)) :
  IntKind.u64.wrap ((u:Int)+IntKind.u64.wrap (IntKind.u64.wrap ((c:Int).tmod 128)*2 ^ min (IntKind.i64.wrap k).toNat IntKind.u64.bits))=((u+c % 128*128 ^ i:Nat):Int):=by
 have b64:IntKind.u64.bits=64:=rfl
 have w64:∀ n:Nat,n<18446744073709551616->IntKind.u64.wrap (n:Int)=n:=fun n h=>by simp [IntKind.wrap,IntKind.bits,IntKind.signed]; omega
 have h1:c % 128<128:=Nat.mod_lt _ (by decide)
 have e1:(c:Int).tmod 128=((c % 128:Nat):Int):=by rw [Int.tmod_eq_emod_of_nonneg (by omega)]; omega
 have e2:min (7*(i:Int)).toNat 64=7*i:=by omega
 have e3:(2:Nat) ^ (7*i)=128 ^ i:=(j5e i).symm
 have p8:128 ^ i<=128 ^ 9:=Nat.pow_le_pow_right (by decide) hi
 have e9:(128:Nat) ^ 9=9223372036854775808:=by decide
 have hy:u+c % 128*128 ^ i<18446744073709551616:=by
  rcases h9 with h | h
  ·have q1:128 ^ i<=128 ^ 8:=Nat.pow_le_pow_right (by decide) (by omega)
   have q2:c % 128*128 ^ i<=127*128 ^ 8:=Nat.mul_le_mul (by omega) q1
   have q3:(127:Nat)*128 ^ 8=9151314442816847872:=by decide
   omega
  ·have q2:c % 128*128 ^ i<=1*128 ^ 9:=Nat.mul_le_mul (by omega) p8
   omega
 have cp:(2:Int) ^ (7*i)=((128 ^ i:Nat):Int):=by rw [<-e3]; exact (Int.natCast_pow 2 (7*i)).symm
 rw [hk,b64,e1,e2,w64 (c % 128) (by omega),cp,<-Int.natCast_mul,w64 (c % 128*128 ^ i) (by omega),<-Int.natCast_add,w64 _ hy]
theorem z63 (L:List (BitVec 8))(hL:L.length<=100000)(a:Nat)(ha:a<=L.length)(b:Nat)(st:q5c)(hb:q50 st b):PCalls P F.q1d [.ptr b 0] ((b,rdR L a false)::st) (NumR L a b st):=by
 refine H.q1d.view q5l rfl rfl ?_
 have h0:=Hid.mk (NumI.zero (L.drop a))
 repeat' (simp -dsimp -implicitDefEqProofs [*])
 refine q5e (fun y:Nat × Nat × Nat=>[(0,.ptr b 0),(3,.val (.int .u64 (y.2.1:Nat))),(4,.int y.1)]) (fun y=>(b,rdR L y.2.2 false)::st) (fun y=>y.2.2<=L.length/\Hid (NumI (L.drop a) y.1 y.2.1 (L.drop y.2.2))) (fun y=>10-y.1) (0,0,a) ⟨ha,h0⟩ (by simp) (.refl _) ?_
 clear h0
 rintro⟨i,u,p⟩ ⟨hp,hI⟩
 replace hp:p<=L.length:=hp
 replace hI:Hid (NumI (L.drop a) i u (L.drop p)):=hI
 simp only
 by_cases hpl:p<L.length
 case neg=>
  obtain rfl:p=L.length:=by omega
  have hn:=hI.out
  rw [List.drop_length] at hn
  have e:=Hid.mk (NumR.no (b:=b) (st:=st) hn.nil hp)
  have hd:=hn.dig
  have hu:=hn.low
  clear hn hI
  have hbv:bv 0#8=.val (.int .u8 0):=rfl
  by_cases h0:i=0
  ·subst h0
   obtain rfl:u=0:=by have:=hu; omega
   have w00:IntKind.i64.wrap 0=0:=rfl
   have w01:IntKind.u64.wrap 0=0:=rfl
   repeat' (first 
    | (with_reducible refine Does.xcall (z4e L hL _ _ hb) ?_)
    | (simp -dsimp -implicitDefEqProofs [*]))
   exact .same e.out
  ·have hp0:0<i:=by omega
   repeat' (first 
    | (with_reducible refine Does.xcall (z4e L hL _ _ hb) ?_)
    | (simp -dsimp -implicitDefEqProofs [*]))
   all_goals first | exact .same e.out | exact fun _=>.same e.out
 obtain⟨c,hc⟩:∃ c,L[p]?=some c:=⟨_,List.getElem?_eq_getElem hpl⟩
 have hdr:L.drop p=c::L.drop (p+1):=by
  rw [List.drop_eq_getElem_cons hpl,q6b hc]
 rw [hdr] at hI
 have hbv:bv c=.val (.int .u8 (c.toNat:Nat)):=rfl
 have hcl:=c.isLt
 have nx:=fun st hb=>z62 L p c hc hL b st hb
 by_cases ok:(i=0\/c.toNat ≠ 0)/\(i<9\/c.toNat<=1)
 case neg=>
  have e:=Hid.mk fun a' h=>NumR.no (b:=b) (a':=a') (st:=st) (hI.out.bad ok) h
  have hd:=hI.out.dig
  clear hI hc hdr
  by_cases h0:i=0
  ·exfalso; omega
  by_cases hc0:c.toNat=0
  ·by_cases h9:(i:Int)=9
   ·repeat' (first 
     | (with_reducible refine Does.xcall (nx _ hb) ?_)
     | (simp -dsimp -implicitDefEqProofs [*]))
    exact .same (e.out (p+1) hpl)
   ·repeat' (first 
     | (with_reducible refine Does.xcall (nx _ hb) ?_)
     | (simp -dsimp -implicitDefEqProofs [*]))
    exact fun _=>.same (e.out (p+1) hpl)
  ·have h9:¬ (i:Int)<9:=by omega
   have h91:(i:Int)=9:=by omega
   have hc1:(1:Int)<c.toNat:=by omega
   repeat' (first 
    | (with_reducible refine Does.xcall (nx _ hb) ?_)
    | (simp -dsimp -implicitDefEqProofs [*]))
   exact .same (e.out (p+1) hpl)
 have eL:=Hid.mk (hI.out.last ok)
 have eN:=Hid.mk (hI.out.next ok)
 have hd:=hI.out.dig
 have hu:=hI.out.low
 clear hI hc hdr
 have hx:=fun k=>j6o (k:=k) hd hu hcl ok.2
 obtain⟨w,hw⟩:∃ w,w=u+c.toNat % 128*128 ^ i:=⟨_,rfl⟩
 rw [<-hw] at hx eL eN
 have ei:=q5f (n:=i) (by omega)
 by_cases h0:i=0
 ·subst h0
  have hx0:=hx 0 (by decide)
  rw [show (2:Int) ^ min (IntKind.i64.wrap 0).toNat IntKind.u64.bits=1 from rfl,Int.mul_one] at hx0
  clear hx
  have w00:IntKind.i64.wrap 0=0:=rfl
  have e1:IntKind.i64.wrap 1=1:=rfl
  clear hw
  repeat' (first 
   | (with_reducible refine Does.xcall (nx _ hb) ?_)
   | (with_reducible refine And.intro (fun h=>?_) (fun h=>?_)) <;> (try (exfalso; omega))
   | (simp -dsimp -implicitDefEqProofs [*]))
  all_goals first | exact .same (NumR.yes (eL.out (by omega)) (by omega) rfl) | exact Next.intro (1,w,p+1) ⟨by simp only; omega,⟨eN.out (by omega)⟩⟩ (by simp only; omega) (by simp) (.refl _)
 have hc0:¬ c.toNat=0:=by omega
 have hp0:0<i:=by omega
 by_cases h9:(i:Int)=9
 ·have hc1:¬ (1:Int)<c.toNat:=by omega
  have h99:i=9:=by omega
  have hx0:=hx 63 (by subst h99; decide)
  rw [show IntKind.i64.wrap 63=63 from rfl,show min (63:Int).toNat IntKind.u64.bits=63 from rfl,show (2:Int) ^ 63=9223372036854775808 from rfl] at hx0
  clear hx hw
  have e1:IntKind.i64.wrap 10=10:=rfl
  have e2:IntKind.i64.wrap 63=63:=rfl
  have e3:IntKind.u64.bits=64:=rfl
  repeat' (first 
   | (with_reducible refine Does.xcall (nx _ hb) ?_)
   | (with_reducible refine And.intro (fun h=>?_) (fun h=>?_)) <;> (try (exfalso; omega))
   | (simp -dsimp -implicitDefEqProofs [*]))
  all_goals first | exact .same (NumR.yes (eL.out (by omega)) (by omega) rfl) | (intros; omega) | (exfalso; omega)
 replace hx:=hx (7*i) (q5i (by omega) (by omega))
 have e7:0<=IntKind.i64.wrap (7*(i:Int)):=by rw [q5i (by omega) (by omega)]; omega
 clear hw
 repeat' (first 
  | (with_reducible refine Does.xcall (nx _ hb) ?_)
  | (with_reducible refine And.intro (fun h=>?_) (fun h=>?_)) <;> (try (exfalso; omega))
  | (simp -dsimp -implicitDefEqProofs [*]))
 all_goals first | exact .same (NumR.yes (eL.out (by omega)) (by omega) rfl) | exact Next.intro (i+1,w,p+1) ⟨by simp only; omega,⟨eN.out (by omega)⟩⟩ (by simp only; omega) (by simp) (.refl _) | (intros; exact .same (NumR.yes (eL.out (by omega)) (by omega) rfl)) | (intros; omega)
end Go.Proofs.YtmlmoaimjifpgaaGreat
