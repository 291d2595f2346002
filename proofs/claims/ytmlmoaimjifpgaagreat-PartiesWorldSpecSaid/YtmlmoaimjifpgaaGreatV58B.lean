/- Rooms that are valid. -/
import Derived.Test.YtmlmoaimjifpgaaGreatN58G
import Derived.Test.YtmlmoaimjifpgaaGreatLCd
import Derived.Test.YtmlmoaimjifpgaaGreatLLo
namespace Go.Proofs.YtmlmoaimjifpgaaGreat
open Go.Pv Go.Pv.Cd
set_option maxRecDepth 100000
set_option maxHeartbeats 8000000
def q7m (p:Nat × Nat × Note):Pk:=⟨p.1,p.2.1,msg p.2.2⟩
def prR (l:List (List Note)):List PV:=l.map (Note.lst false)
@[simp] theorem k1y (l:List (List Note)):(prR l).length=l.length:=by simp [prR]
theorem z9q {l:List (List Note)}{i:Nat}(h:i<l.length):(prR l)[i]?=some (Note.lst false l[i]):=by simp [prR,h]
def q74 (r:PR Note):List PV:=[.list false (prR r.peers) r.peers.length,Pk.lst false (r.q.map q7m),.list false [] 0]
theorem encs_len:∀ (l:List Int),(∀ x ∈ l,0<=x/\x<=2097152)->(Vl.encs (l.map .int)).length<=l.length*11
 | [],_=>Nat.le_refl _
 | x::l,h=>by
  have h0:=h x (List.mem_cons_self ..)
  have ih:=encs_len l fun y hy=>h y (List.mem_cons_of_mem _ hy)
  rw [List.map_cons,Vl.encs,List.length_append,Vl.enc,List.length_cons,List.length_cons]
  have h2:zig x<18446744073709551616:=j5h (by omega)
  have:=q63 h2
  rw [q9l] at this
  omega
theorem k6u {n:Note}(h:q5s n=true):(msg n).length<=1000:=by
 have:=encs_len n.ints (k0m h)
 rw [Note.ints_len] at this
 have h2:=q63 (n:=24) (by decide)
 rw [q9l] at h2
 unfold msg y44
 rw [Vl.enc,List.length_cons,List.length_append,List.length_map,Note.ints_len]
 omega
theorem z2b (n:Note)(hn:q5s n=true)(st:q5c):Rets P F.q16 [q54 false (msg n)] st (.tuple [n.pv,.bool true]):=
 PCalls.mono (z6q (msg n) (by have:=k6u hn; omega) st) fun e s ⟨m,ok,h1,h2,h3⟩=>by
  rw [k8a hn] at h3
  obtain⟨rfl,rfl⟩:=h3
  exact⟨h1,h2⟩
abbrev InR (r:PR Note)(n:Nat)(U:List Note):Prop:=r.In q6v q5s n U
theorem InR.pk {r:PR Note}{n:Nat}{U:List Note}(h:InR r n U)(hn:n<=24):∀ p ∈ r.q.map q7m,pkB p=true:=fun p hp=>by
 obtain⟨x,hx,rfl⟩:=List.mem_map.1 hp
 have hq:=h.q x hx
 have hm:=k6u hq.2.2.2.1
 unfold pkB j8z q7m
 simp only [Bool.and_eq_true,decide_eq_true_eq]
 have h1:=hq.1
 have h2:=hq.2.1
 have h3:=hq.2.2.1
 refine⟨⟨⟨?_, ?_⟩, ?_⟩, ?_⟩ <;> omega
theorem InR.peer {r:PR Note}{n:Nat}{U:List Note}(h:InR r n U){l:List Note}(hl:l ∈ r.peers):Rise q6v okN l/\l.length<=U.length:=
 ⟨h.rise l hl,k3k (Rise.nodup cmpN_ord (h.rise l hl)) (h.sub l hl)⟩
theorem y2p {L:List PV}{i:Nat}{x:PV}(h:L[i]?=some x):sub L i 1=some [x]:=by
 obtain⟨h1,h2⟩:=List.getElem?_eq_some_iff.1 h
 unfold sub
 rw [if_pos (by omega),<-List.getElem_cons_drop h1,h2]
 rfl
theorem Pk.sub_at {Q:List Pk}{i:Nat}{x:Pk}(h:Q[i]?=some x):sub (Pk.row Q) (i*3) 3=some x.enc:=by
 obtain⟨h1,h2⟩:=List.getElem?_eq_some_iff.1 h
 rw [Pk.row_sub Q i h1,h2]
theorem q7j {r:PR Note}{n:Nat}{U:List Note}(h:InR r n U)(hn:1<=n/\n<=24)(hU:U.length<=1000)(hq:r.q.length<=4000)(st:q5c):Rets P F.q2i [.agg (q74 r)] st (.int 0):=by
 have hpk:=h.pk hn.2
 have c:=fun st=>k1x (r.q.map q7m) (by rw [List.length_map]; omega) hpk st
 have hpe:=Hid.mk fun l (hl:l ∈ r.peers)=>h.peer hl
 have hqq:=Hid.mk h.q
 have hlen:=h.len
 clear h hpk
 obtain⟨peers,q,ap⟩:=r
 simp only [q74] at *
 have hq2:(q.map q7m).length=q.length:=List.length_map ..
 subst hlen
 have hm:Hid (∀ i (h:i<q.length),(q.map q7m)[i]?=some (q7m q[i])):=⟨fun i h=>by rw [List.getElem?_map,List.getElem?_eq_getElem h]; rfl⟩
 have hr0:=Pk.row_len (q.map q7m)
 generalize q.map q7m=Q at *
 replace hq2:=Hid.mk hq2
 refine H.q2i.view q5l rfl rfl ?_
 repeat' (first 
  | (with_reducible refine Fresh.intro fun b hb=>?_) <;> (try simp -dsimp -implicitDefEqProofs [*] at hb)
  | (with_reducible refine Rets.xcall (c _) ?_)
  | (with_reducible refine And.intro (fun h=>?_) (fun h=>?_)) <;> (try (exfalso; omega))
  | (simp -dsimp -implicitDefEqProofs [*]))
 clear c
 refine q5e (fun i:Nat=>[(28,.int i),(27,.int peers.length),(26,.list false (prR peers) peers.length),(2,.int 0),(1,.ptr b 0)]) (fun _=>(b,.arr T.apiRoom [.list false (prR peers) peers.length,Pk.lst false Q,.list false [] 0])::st) (fun i=>i<=peers.length) (fun i=>peers.length-i) 0 (Nat.zero_le _) (by simp) (.refl _) ?_
 intro i hi
 by_cases hil:i<peers.length
 ·have hwi:=q5f (n:=i) (by omega)
  have g1:=z9q hil
  have G1:=q6b g1
  have hpl:=k1y peers
  have hp:=hpe.out _ (List.getElem_mem hil)
  have v:=fun st=>k0d peers[i] (by omega) true ⟨fun _=>⟨hp.1,by omega⟩,fun _=>rfl⟩ st
  obtain⟨l,hl⟩:∃ l,l=peers[i]:=⟨_,rfl⟩
  rw [<-hl] at g1 v
  simp only [<-hl] at G1
  have s1:=y2p g1
  clear hl hp
  repeat' (first 
   | (with_reducible refine Fresh.intro fun b hb=>?_) <;> (try simp -dsimp -implicitDefEqProofs [*] at hb)
   | (with_reducible refine Rets.xcall (v _) ?_)
   | (simp -dsimp -implicitDefEqProofs [*]))
  exact Next.intro (i+1) (by omega) (by omega) (by simp) q5m
 obtain rfl:i=peers.length:=by omega
 clear hpe
 repeat' (simp -dsimp -implicitDefEqProofs [*])
 refine q5e (fun j:Nat=>[(38,Pk.lst false Q),(39,.int Q.length),(40,.int j),(2,.int 0),(1,.ptr b 0)]) (fun _=>(b,.arr T.apiRoom [.list false (prR peers) peers.length,Pk.lst false Q,.list false [] 0])::st) (fun j=>j<=Q.length) (fun j=>Q.length-j) 0 (Nat.zero_le _) (by simp) (.refl _) ?_
 intro j hj
 by_cases hjQ:j<Q.length
 case neg=>
  obtain rfl:j=Q.length:=by omega
  clear hqq hm
  repeat' (simp -dsimp -implicitDefEqProofs [*])
  all_goals exact RetView.drop (st':=st) q5m ⟨rfl,rfl⟩
 have hwj:=q5f (n:=j) (by have:=hq2.out; omega)
 have hjl:j<q.length:=by have:=hq2.out; omega
 have hs:=Pk.sub_at (hm.out j hjl)
 have hx:=hqq.out q[j] (List.getElem_mem hjl)
 obtain⟨x,hxd⟩:∃ x,x=q[j]:=⟨_,rfl⟩
 rw [<-hxd] at hs hx
 clear hxd hqq hm
 obtain⟨xa,xb,xn⟩:=x
 obtain⟨x1,x2,x3,x4,x5⟩:=hx
 simp only at x1 x2 x3 x4 x5
 have rd:=fun st=>z2b xn x4 st
 have hmx:¬ (peers.length:Int)<=(if (xa:Int)<xb then (xb:Int) else xa):=by split <;> omega
 clear x4 x5
 repeat' (first 
  | (with_reducible refine Fresh.intro fun b hb=>?_) <;> (try simp -dsimp -implicitDefEqProofs [*] at hb)
  | (with_reducible refine Rets.xcall (rd _) ?_)
  | (with_reducible refine And.intro (fun h=>?_) (fun h=>?_)) <;> (try (exfalso; omega))
  | (simp -dsimp -implicitDefEqProofs [q7m, *]))
 all_goals exact Next.intro (j+1) (by omega) (by omega) (by simp) q5m
open Go.Pv
set_option maxRecDepth 100000
def ins {α:Type}(l:List α)(i:Nat)(x:α):List α:=l.take i++x::l.drop i
theorem z37 {α:Type}(l:List α)(i:Nat)(x:α)(hi:i<=l.length):(ins l i x).length=l.length+1:=by
 simp [ins]; omega
section
variable {α:Type}
structure Falls (c:α->Int)(l:List α):Prop where
 out:∀ a b,a<b->∀ (h:b<l.length),c l[b]<0->∀ {h':a<l.length},c l[a]<0
def y0x (c:α->Int)(l:List α):Nat:=l.findIdx (fun x=>decide (0<=c x))
def v0f (c:α->Int)(l:List α):Bool:=if h:y0x c l<l.length then decide (c l[y0x c l]=0) else false
theorem j23 {c:α->Int}{l:List α}{i:Nat}(h2:i<=l.length)(h3:∀ k,k<i->∀ h:k<l.length,c l[k]<0)(h4:∀ k,i<=k->∀ h:k<l.length,0<=c l[k]):i=y0x c l/\v0f c l=(if h:i<l.length then decide (c l[i]=0) else false):=by
 have e:y0x c l=i:=by
  unfold y0x
  rcases Nat.lt_or_ge i l.length with hil | hil
  ·rw [List.findIdx_eq hil]
   refine⟨by simpa using h4 i (Nat.le_refl _) hil,fun k hk=>?_⟩
   have:=h3 k hk (by omega)
   simpa using this
  ·rw [List.findIdx_eq_length.2]
   ·omega
   ·intro x hx
    obtain⟨k,hk,rfl⟩:=List.mem_iff_getElem.1 hx
    have:=h3 k (by omega) hk
    simpa using this
 subst e
 exact⟨rfl,rfl⟩
end
open Go.Pv
set_option maxRecDepth 100000
set_option maxHeartbeats 4000000
theorem z6s (g:FuncId)(c:Note->Int)(y:Note)(t:Bool)(l:List Note)(hl:l.length<=1024)(hm:Falls c l)(st:q5c)(hg:∀ x ∈ l,∀ st',StLe st st'->Rets P g [x.pv,y.pv] st' (.int (c x))):Rets P F.q0g [Note.lst t l,y.pv,.func (.func g) [] []] st (.tuple [.int (y0x c l),.bool (v0f c l)]):=by
 refine H.q0g.view q5l rfl rfl ?_
 repeat' (first 
  | (with_reducible refine Fresh.intro fun b hb=>?_) <;> (try simp -dsimp -implicitDefEqProofs [*] at hb)
  | (simp -dsimp -implicitDefEqProofs [*]))
 revert b; intro q hq
 refine q5e (fun x:Nat × Nat=>[(0,Note.lst t l),(4,.ptr q 0),(2,.func (.func g) [] []),(8,.int l.length),(9,.int (x.1:Nat)),(10,.int (x.2:Nat))]) (fun _=>(q,.arr T.apiNote y.enc)::st)
  (fun x=>x.1<=x.2/\x.2<=l.length/\Hid ((∀ k,k<x.1->∀ h:k<l.length,c l[k]<0)/\(∀ k,x.2<=k->∀ h:k<l.length,0<=c l[k]))) (fun x=>x.2-x.1) (0,l.length) ⟨Nat.zero_le _,Nat.le_refl _,⟨fun k h=>absurd h (by simp),fun k h1 h2=>absurd h1 (by simp only; omega)⟩⟩ (by simp) (.refl _) ?_
 rintro⟨i,j⟩ ⟨h1,h2,h3⟩
 replace h1:i<=j:=h1
 replace h2:j<=l.length:=h2
 replace h3:Hid ((∀ k,k<i->∀ h:k<l.length,c l[k]<0)/\(∀ k,j<=k->∀ h:k<l.length,0<=c l[k])):=h3
 by_cases hij:i<j
 ·have hm1:IntKind.i64.wrap ((i:Int)+j)=(i:Int)+j:=q5i (by omega) (by omega)
  have hm2:IntKind.u64.wrap ((i:Int)+j)=(i:Int)+j:=q7g (by omega) (by omega)
  have hm3:=j4y (i:=i) (j:=j) (by omega)
  obtain⟨m,hmd⟩:∃ m,m=(i+j) / 2:=⟨_,rfl⟩
  rw [<-hmd] at hm3
  have hm4:=q5f (n:=m) (by omega)
  have him:i<=m/\m<j:=by omega
  have hml:m<l.length:=by omega
  have s0:=Note.row_sub l m hml
  have hk:m*24<l.length*24:=by omega
  have hc:=hg l[m] (List.getElem_mem hml) ((q,.arr T.apiNote y.enc)::st) (.fresh hq)
  have f1:Hid (c l[m]<0->(∀ k,k<m+1->∀ h:k<l.length,c l[k]<0)/\(∀ k,j<=k->∀ h:k<l.length,0<=c l[k])):=⟨fun hn=>⟨fun k hk h=>if e:k=m then by subst e; exact hn else hm.out k m (by omega) hml hn (h':=h),h3.out.2⟩⟩
  have f2:Hid (0<=c l[m]->(∀ k,k<i->∀ h:k<l.length,c l[k]<0)/\(∀ k,m<=k->∀ h:k<l.length,0<=c l[k])):=⟨fun hp=>⟨h3.out.1,fun k hk h=>Int.not_lt.1 fun hn=>by
   by_cases e:k=m
   ·subst e; omega
   ·have:=hm.out m k (by omega) h hn (h':=hml); omega⟩⟩
  obtain⟨x,hx⟩:∃ x,x=l[m]:=⟨_,rfl⟩
  rw [<-hx] at s0 hc f1 f2
  obtain⟨v,hv⟩:∃ v,v=c x:=⟨_,rfl⟩
  rw [<-hv] at hc f1 f2
  clear hmd hx hv h3 hg hm
  by_cases hv0:v<0
  ·have h5:=Hid.mk (f1.out hv0)
   clear f1 f2
   repeat' (first 
    | (with_reducible refine Rets.xcall (hc) ?_)
    | (with_reducible refine DrawLate.intro [] ?_)
    | (simp -dsimp -implicitDefEqProofs [*]))
   exact Next.intro (m+1,j) ⟨by simp only; omega,h2,h5⟩ (by simp only; omega) (by simp) q5m
  ·have hv1:0<=v:=by omega
   have h5:=Hid.mk (f2.out hv1)
   clear f1 f2
   repeat' (first 
    | (with_reducible refine Rets.xcall (hc) ?_)
    | (with_reducible refine DrawLate.intro [] ?_)
    | (simp -dsimp -implicitDefEqProofs [*]))
   exact Next.intro (i,m) ⟨by simp only; omega,by simp only; omega,h5⟩ (by simp only; omega) (by simp) q5m
 ·obtain rfl:j=i:=by omega
  obtain⟨e1,e2⟩:=j23 h2 h3.out.1 h3.out.2
  rw [<-e1,e2]
  have kl:(j:Int)<l.length ↔ j<l.length:=by omega
  clear h3
  by_cases hjl:j<l.length
  ·have s0:=Note.row_sub l j hjl
   have hk:j*24<l.length*24:=by omega
   have hc:=hg l[j] (List.getElem_mem hjl) ((q,.arr T.apiNote y.enc)::st) (.fresh hq)
   have hjl2:(j:Int)<l.length:=by omega
   rw [dif_pos hjl]
   obtain⟨x,hx⟩:∃ x,x=l[j]:=⟨_,rfl⟩
   rw [<-hx] at s0 hc ⊢
   obtain⟨v,hv⟩:∃ v,v=c x:=⟨_,rfl⟩
   rw [<-hv] at hc ⊢
   clear hx hv hg hm e1 e2 kl
   repeat' (first 
    | (with_reducible refine Rets.xcall (hc) ?_)
    | (with_reducible refine DrawLate.intro [] ?_)
    | (simp -dsimp -implicitDefEqProofs [*]))
   exact RetView.drop (st':=st) q5m ⟨rfl,rfl⟩
  ·have hjl2:¬ (j:Int)<l.length:=by omega
   rw [dif_neg hjl]
   clear hg hm e1 e2 kl
   repeat' (first 
    | (with_reducible refine DrawLate.intro [] ?_)
    | (simp -dsimp -implicitDefEqProofs [*]))
   exact RetView.drop (st':=st) q5m ⟨rfl,rfl⟩
open Go.Pv
set_option maxRecDepth 100000
set_option maxHeartbeats 8000000
def y7y (l:List Note)(cap:Nat):PObj:=.arr T.apiNote (Note.row l++List.replicate ((cap-l.length)*24) .any)
def y2q (l:List Note)(st:q5c)(e:PEnd)(s:q5c):Prop:=
 l=[]/\e=.ret (.list true [] 0)/\s=st\/∃ b cap,q50 st b/\l.length<=cap/\cap<=9223372036854775807/\e=.ret (.own b 0 l.length cap)/\s=(b,y7y l cap)::st
theorem j24 (t:Bool)(l:List Note)(hl:l.length<=1024)(st:q5c):PCalls P F.q1m [Note.lst t l] st (y2q l st):=by
 refine H.q1m.view q5l rfl rfl ?_
 repeat' (first 
  | (with_reducible refine Lit.imm ?_)
  | ((with_reducible refine Grow.intro ?_ fun b cap hb hc1 hc2=>?_); omega) <;> (try simp -dsimp -implicitDefEqProofs [*] at hb)
  | (with_reducible refine And.intro (fun h=>?_) (fun h=>?_)) <;> (try (exfalso; omega))
  | (with_reducible refine And.intro (fun h=>?_) ?_) <;> (try (exfalso; omega))
  | (simp -dsimp -implicitDefEqProofs [*]))
 ·exact .sees (.nil _) (.same (.inl ⟨rfl,rfl,rfl⟩))
 ·exact .same (.inl ⟨rfl,rfl,rfl⟩)
 ·exact .same (.inr ⟨_,_,hb,hc1,hc2,rfl,rfl⟩)
theorem z0t (x:Note)(b off n' cap:Nat)(row:List PV)(st:q5c)(hg:q55 st b=some (.arr T.apiNote row)):Rets P F.q4p [.list true x.enc 1,.own b off n' cap] st (.bool false):=
 z5n (tR:=T.bool) (k:=24) (ag:=true) Tryz.func187 (by kernel_rfl) (by kernel_rfl) (by kernel_rfl) (by kernel_rfl) Tryz.underlying58 (by kernel_rfl) (by omega) (by simp) hg
def j80 (l:List Note)(i:Nat)(x:Note)(st:q5c)(e:PEnd)(s:q5c):Prop:=e=.ret (Note.lst false (ins l i x))/\s=st
theorem j1n (l:List Note)(i:Nat)(x:Note):Note.row (ins l i x)=Note.row (l.take i)++x.enc++Note.row (l.drop i):=by
 simp [ins,Note.row_append]
theorem z2c (l:List Note)(i:Nat)(x:Note)(hi:i<=l.length)(Y:List PV)(hY:24+(l.length-i)*24<=Y.length) :
  (q5g (q5g (Note.row (l.take i)++Y) ((i+1)*24) (Note.row (l.drop i))) (i*24) x.enc).take ((l.length+1)*24)=Note.row (ins l i x) ∧
  (q5g (q5g (Note.row (l.take i)++Y) (i*24) x.enc) ((i+1)*24) (Note.row (l.drop i))).take ((l.length+1)*24)=Note.row (ins l i x):=by
 have h1:(Note.row (l.take i)).length=i*24:=by simp; omega
 have h2:(Note.row (l.drop i)).length=(l.length-i)*24:=by simp
 have h3:x.enc.length=24:=x.len
 have:=z5l (Note.row (l.take i)) Y x.enc (Note.row (l.drop i)) (by omega)
 rw [h1,h2,h3,show i*24+24=(i+1)*24 by omega,show (i+1)*24+(l.length-i)*24=(l.length+1)*24 by omega] at this
 rw [j1n]
 exact this
theorem k6v (l:List Note)(i:Nat)(C:List PV)(h:i<=l.length):(Note.row l++C).take (i*24)=Note.row (l.take i)/\((Note.row l++C).drop (i*24)).take ((l.length-i)*24)=Note.row (l.drop i):=by
 have h1:(Note.row (l.take i)).length=i*24:=by simp; omega
 have h2:(Note.row (l.drop i)).length=(l.length-i)*24:=by simp
 have e:Note.row l=Note.row (l.take i)++Note.row (l.drop i):=by rw [<-Note.row_append,List.take_append_drop]
 rw [e,List.append_assoc]
 exact⟨List.take_left' h1,by rw [List.drop_left' h1,List.take_left' h2]⟩
theorem z9r (l:List Note)(hl:l.length<=1024)(i:Nat)(hi:i<=l.length)(x:Note)(b cap:Nat)(hc1:l.length<=cap)(hc2:cap<=9223372036854775807)(R:List PV)(hR1:R.length=cap*24)(hR2:∃ C,R=Note.row l++C)
  (st:q5c) (hb:q50 st b) :
  PCalls P F.q0w [.own b 0 l.length cap,.int i,.list true x.enc 1] ((b,.arr T.apiNote R)::st) (j80 l i x st):=by
 have hw:IntKind.i64.wrap ((l.length:Int)+1)=(l.length:Int)+1:=q5f (by omega)
 have hw2:IntKind.i64.wrap ((l.length:Int)+1-i)=(l.length:Int)+1-i:=q5i (by omega) (by omega)
 have hw3:IntKind.i64.wrap ((i:Int)+1)=(i:Int)+1:=q5f (by omega)
 have ht1:((l.length:Int)+1-i).toNat=l.length+1-i:=by omega
 have ht2:((i:Int)+1).toNat=i+1:=by omega
 have ht3:((l.length:Int)+1).toNat=l.length+1:=by omega
 have ht4:i+(l.length+1-i)=l.length+1:=by omega
 have hm1:min (l.length+1-i) (l.length-i)=l.length-i:=by omega
 have hm2:min 1 (l.length+1-i)=1:=by omega
 refine H.q0w.view q5l rfl rfl ?_
 rcases Nat.lt_or_ge i l.length with hil | hil
 ·have hm3:min (l.length-i) (l.length-i)=l.length-i:=by omega
  rcases Nat.lt_or_ge cap (l.length+1) with hcap | hcap
  ·have hq1:i*24+(l.length-i)*24<=cap*24:=by omega
   repeat' (first 
    | (with_reducible refine And.intro (fun h=>?_) (fun h=>?_)) <;> (try (exfalso; omega))
    | ((with_reducible refine q5r ?_ fun hk=>?_); omega)
    | (simp -dsimp -implicitDefEqProofs [*]))
   refine z5g (row:=R) (by simp) (by simp [hR1]) (by omega) hc2 (by omega) (fun h=>absurd h (by omega)) fun _=>?_
   have hq4:(i+1)*24+(l.length-i)*24<=i*24+((l.length+1-i)*24+(cap-(l.length+1))*24):=by omega
   have hq5:i*24+24<=i*24+((l.length+1-i)*24+(cap-(l.length+1))*24):=by omega
   have hq6:min (i*24) (cap*24)=i*24:=by omega
   repeat' (first 
    | ((with_reducible refine Grow.intro ?_ fun b cap hb hc1 hc2=>?_); omega) <;> (try simp -dsimp -implicitDefEqProofs [*] at hb)
    | (with_reducible refine RetView.fz 24 ?_ ?_)
    | (with_reducible refine RetView.same ?_)
    | (with_reducible refine And.intro (fun h=>?_) (fun h=>?_)) <;> (try (exfalso; omega))
    | (with_reducible refine And.intro (fun h=>?_) ?_) <;> (try (exfalso; omega))
    | ((with_reducible refine q5r ?_ fun hk=>?_); omega)
    | (simp -dsimp -implicitDefEqProofs [*]))
   refine⟨?_,rfl⟩
   obtain⟨C,rfl⟩:=hR2
   have h1:=k6v l i C hi
   have h2:List.take 24 x.enc=x.enc:=List.take_of_length_le (by simp)
   rw [List.take_take,Nat.min_self,h1.1,h1.2,h2,(z2c l i x hi _ (by simp; omega)).2]
   simp [z37,hi]
  ·have hq1:i*24+(l.length+1-i)*24<=cap*24:=by omega
   have hq2:(i+1)*24+(l.length-i)*24<=cap*24:=by omega
   have hq3:i*24+24<=cap*24:=by omega
   repeat' (first 
    | (with_reducible refine Rets.xcall (z0t _ _ _ _ _ R _ (by simp)) ?_)
    | (with_reducible refine RetView.fz 24 ?_ ?_)
    | (with_reducible refine RetView.same ?_)
    | (with_reducible refine And.intro (fun h=>?_) (fun h=>?_)) <;> (try (exfalso; omega))
    | (with_reducible refine And.intro (fun h=>?_) ?_) <;> (try (exfalso; omega))
    | ((with_reducible refine q5r ?_ fun hk=>?_); omega)
    | (simp -dsimp -implicitDefEqProofs [*]))
   refine⟨?_,rfl⟩
   obtain⟨C,rfl⟩:=hR2
   have h1:=k6v l i C hi
   have h2:List.take 24 x.enc=x.enc:=List.take_of_length_le (by simp)
   have e:Note.row l=Note.row (l.take i)++Note.row (l.drop i):=by rw [<-Note.row_append,List.take_append_drop]
   have h3:(l.length-i)*24<=(l.length+1-i)*24:=by omega
   rw [List.take_take,Nat.min_eq_left h3,h1.2,h2,e,List.append_assoc]
   rw [e,List.append_assoc] at hR1
   have h4:(Note.row (List.take i l)).length=i*24:=by simp; omega
   rw [List.length_append,h4] at hR1
   rw [(z2c l i x hi _ (by omega)).1]
   simp [z37,hi]
 ·obtain rfl:i=l.length:=by omega
  have hfin:∀ D,List.take ((l.length+1)*24) (List.take (l.length*24) R++(x.enc++D))=Note.row (ins l l.length x):=by
   intro D
   obtain⟨C,rfl⟩:=hR2
   rw [(k6v l l.length C (Nat.le_refl _)).1,j1n,List.take_length,List.drop_length,<-List.append_assoc,List.take_left' (by simp; omega)]
   simp
  repeat' (first 
   | (with_reducible refine And.intro (fun h=>?_) (fun h=>?_)) <;> (try (exfalso; omega))
   | (simp -dsimp -implicitDefEqProofs [*]))
  ·refine k1q (row:=R) (by simp) hR1 hc1 hc2 ?_
   repeat' (first 
    | ((with_reducible refine Grow.intro ?_ fun b cap hb hc1 hc2=>?_); omega) <;> (try simp -dsimp -implicitDefEqProofs [*] at hb)
    | (with_reducible refine RetView.fz 24 ?_ ?_)
    | (with_reducible refine RetView.same ?_)
    | (simp -dsimp -implicitDefEqProofs [*]))
   simp_all [j80,z37]
  ·refine k1q (row:=R) (by simp) hR1 hc1 hc2 ?_
   repeat' (first 
    | ((with_reducible refine Grow.intro ?_ fun b cap hb hc1 hc2=>?_); omega) <;> (try simp -dsimp -implicitDefEqProofs [*] at hb)
    | (with_reducible refine RetView.fz 24 ?_ ?_)
    | (with_reducible refine RetView.same ?_)
    | (simp -dsimp -implicitDefEqProofs [*]))
   simp_all [j80,z37]
theorem j81 (x:Note)(st:q5c):PCalls P F.q0w [.list true [] 0,.int (0:Nat),.list true x.enc 1] st (j80 [] 0 x st):=by
 refine H.q0w.view q5l rfl rfl ?_
 repeat' (first 
  | ((with_reducible refine Grow.intro ?_ fun b cap hb hc1 hc2=>?_); omega) <;> (try simp -dsimp -implicitDefEqProofs [*] at hb)
  | (with_reducible refine RetView.fz 24 ?_ ?_)
  | (with_reducible refine RetView.same ?_)
  | (simp -dsimp -implicitDefEqProofs [*]))
 refine⟨?_,rfl⟩
 simp [ins]
open Go.Pv
set_option maxRecDepth 100000
set_option maxHeartbeats 8000000
theorem k9s (c:Note->Note->Int)(x:Note):∀ l:List Note,y0x (fun y=>c y x) l=k9e c l x
 | []=>rfl
 | y::l=>by
  have ih:=k9s c x l
  unfold y0x k9e at ih ⊢
  rw [List.findIdx_cons,List.takeWhile_cons]
  by_cases h:c y x<0
  ·have h2:¬ 0<=c y x:=by omega
   rw [decide_eq_true h,decide_eq_false h2]
   simp only [cond_false,if_true,List.length_cons]
   rw [ih]
  ·have h2:0<=c y x:=by omega
   rw [decide_eq_false h,decide_eq_true h2]
   rfl
theorem j25 {l:List Note}(h:Rise q6v okN l)(x:Note):Falls (fun y=>q6v y x) l:=
 ⟨fun a b hab hb hc ha=>cmpN_ord.trans _ _ _ (List.pairwise_iff_getElem.1 h.2 a b ha hb hab) hc⟩
theorem j82 {l:List Note}(h:Rise q6v okN l){x:Note}(hx:okN x):v0f (fun y=>q6v y x) l=decide (x ∈ l):=by
 unfold v0f
 rw [Bool.eq_iff_iff,decide_eq_true_eq,j5i cmpN_ord h]
 simp only [k9s]
 split
 ·rename_i hl
  rw [List.getElem?_eq_getElem hl,decide_eq_true_eq]
  constructor
  ·intro he
   rw [cmpN_ord.eq _ _ (h.1 _ (List.getElem_mem hl)) hx he]
  ·intro he
   rw [Option.some.inj he]
   exact cmpN_ord.self x
 ·rename_i hl
  rw [List.getElem?_eq_none (by omega)]
  simp
theorem z6t {l:List Note}(h:Rise q6v okN l)(hl:l.length<=1000){x:Note}(hx:okN x)(st:q5c) :
  Rets P F.q0g [Note.lst false l,x.pv,.func (.func F.q09) [] []] st (.tuple [.int (k9e q6v l x),.bool (decide (x ∈ l))]):=by
 have:=z6s F.q09 (fun y=>q6v y x) x false l (by omega) (j25 h x) st fun y hy st _=>k26 y x (h.1 y hy) hx st
 rwa [k9s,j82 h hx] at this
abbrev z0d (pb n cap:Nat)(q:List Pk):PObj:=.arr T.q44 [.own pb 0 n cap,Pk.lst false q,.list false [] 0]
abbrev k7v (peers:List (List Note))(C:List PV):PObj:=.arr T.apiPeer (prR peers++C)
theorem z2d (peers:List (List Note))(C:List PV)(q:List Pk)(i cap:Nat)(hi:i<peers.length)(hp:peers.length<=24)(hcap:peers.length<=cap/\cap<=9223372036854775807)(hr:Rise q6v okN peers[i])(hl:peers[i].length<=1000)(x:Note)(hx:okN x)(cb pb:Nat)(st:q5c)(hcb:q50 st cb)(hpb:q50 st pb)(hne:¬ cb=pb/\¬ pb=cb) :
  Does P F.q1u [.ptr cb 0,.int i,x.pv] ((cb,z0d pb peers.length cap q)::(pb,k7v peers C)::st) (.tuple []) ((cb,z0d pb peers.length cap q)::(pb,k7v (peers.set i (k6a q6v peers[i] x)) C)::st):=by
 have sr:=fun st=>z6t hr hl hx st
 have hpos:=z8z (c:=q6v) peers[i] x
 have hpl:=k1y peers
 have g1:(prR peers++C)[i]?=some (Note.lst false peers[i]):=by rw [List.getElem?_append_left (by rw [hpl]; exact hi),z9q hi]
 have G1:=q6b g1
 by_cases hm:x ∈ peers[i]
 ·have e:peers.set i (k6a q6v peers[i] x)=peers:=by unfold k6a; rw [if_pos hm]; exact List.set_getElem_self hi
  rw [e]
  rw [decide_eq_true hm] at sr
  clear e hm hr
  generalize k9e q6v peers[i] x=k at *
  generalize peers[i]=l at *
  refine H.q1u.view q5l rfl rfl ?_
  repeat' (first 
   | (with_reducible refine Fresh.intro fun b hb=>?_) <;> (try simp -dsimp -implicitDefEqProofs [*] at hb)
   | (with_reducible refine Rets.xcall (sr _) ?_)
   | (with_reducible refine DrawLate.intro [] ?_)
   | (simp -dsimp -implicitDefEqProofs [*]))
  exact RetView.drop (st':=(cb,z0d pb peers.length cap q)::(pb,k7v peers C)::st) q5m ⟨rfl,rfl⟩
 ·have e:k6a q6v peers[i] x=ins peers[i] (k9e q6v peers[i] x) x:=by unfold k6a ins; rw [if_neg hm]
  rw [e]
  rw [decide_eq_false hm] at sr
  clear e hm hr
  generalize k9e q6v peers[i] x=k at *
  have hset:∀ l',(prR peers++C).set i (Note.lst false l')=prR (peers.set i l')++C:=fun l'=>by
   rw [List.set_append_left _ _ (by rw [hpl]; exact hi)]
   unfold prR
   rw [List.map_set]
  generalize peers[i]=l at *
  have hl4:(l.length:Int)<4096:=by omega
  refine H.q1u.view q5l rfl rfl ?_
  repeat' (first 
   | (with_reducible refine Fresh.intro fun b hb=>?_) <;> (try simp -dsimp -implicitDefEqProofs [*] at hb)
   | (with_reducible refine Rets.xcall (sr _) ?_)
   | (with_reducible refine Rets.xcall (q9v _ _) ?_)
   | (with_reducible refine DrawLate.intro [] ?_)
   | (simp -dsimp -implicitDefEqProofs [*]))
  clear sr
  refine q5h (j24 false l (by omega) _) fun e s hs=>?_
  rcases hs with⟨rfl,rfl,rfl⟩|⟨b2,cap2,hb2,hc1,hc2,rfl,rfl⟩
  ·have hk0:k=0:=by simpa using hpos
   subst hk0
   rw [q5v]
   repeat' (first 
    | (with_reducible refine q59 ?_ ?_)
    | (with_reducible exact Cls.self _ _)
    | (simp -dsimp -implicitDefEqProofs [*]))
   refine q5h (j81 x _) fun e s hs=>?_
   obtain⟨rfl,rfl⟩:=hs
   rw [q5v]
   have hs2:=hset (ins [] 0 x)
   clear hset
   repeat' (first 
    | (with_reducible refine q59 ?_ ?_)
    | (with_reducible exact Cls.self _ _)
    | ((with_reducible refine q5r ?_ fun hk=>?_); omega)
    | (simp -dsimp -implicitDefEqProofs [*]))
   exact RetView.drop (st':=(cb,z0d pb peers.length cap q)::(pb,k7v (peers.set i (ins [] 0 x)) C)::st) q5m ⟨rfl,rfl⟩
  ·rw [q5v]
   repeat' (first 
    | (with_reducible refine q59 ?_ ?_)
    | (with_reducible exact Cls.self _ _)
    | (with_reducible refine q6p ?_ ?_)
    | (simp -dsimp -implicitDefEqProofs [*]))
   unfold y7y
   refine q5h (z9r l (by omega) k hpos x b2 cap2 hc1 hc2 (Note.row l++List.replicate ((cap2-l.length)*24) .any) (by simp; omega) ⟨_,rfl⟩ ((b,.arr T.apiNote x.enc)::(cb,z0d pb peers.length cap q)::(pb,k7v peers C)::st) hb2) fun e s hs=>?_
   obtain⟨rfl,rfl⟩:=hs
   rw [q5v]
   have hs2:=hset (ins l k x)
   clear hset
   repeat' (first 
    | (with_reducible refine q59 ?_ ?_)
    | (with_reducible exact Cls.self _ _)
    | ((with_reducible refine q5r ?_ fun hk=>?_); omega)
    | (simp -dsimp -implicitDefEqProofs [*]))
   exact RetView.drop (st':=(cb,z0d pb peers.length cap q)::(pb,k7v (peers.set i (ins l k x)) C)::st) q5m ⟨rfl,rfl⟩
end Go.Proofs.YtmlmoaimjifpgaaGreat
