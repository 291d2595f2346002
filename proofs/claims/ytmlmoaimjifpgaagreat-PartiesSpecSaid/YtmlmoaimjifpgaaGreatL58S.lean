/- Where something is, or would be: plain. -/
import Derived.Test.YtmlmoaimjifpgaaGreatB58B
import Derived.Test.YtmlmoaimjifpgaaGreatLLo
namespace Go.Proofs.YtmlmoaimjifpgaaGreat
open Go.Pv
set_option maxRecDepth 100000
def ins {α:Type}(l:List α)(i:Nat)(x:α):List α:=l.take i++x::l.drop i
theorem z34 {α:Type}(l:List α)(i:Nat)(x:α)(hi:i<=l.length):(ins l i x).length=l.length+1:=by
 simp [ins]; omega
section
variable {α:Type}
structure Falls (c:α->Int)(l:List α):Prop where
 out:∀ a b,a<b->∀ (h:b<l.length),c l[b]<0->∀ {h':a<l.length},c l[a]<0
def y04 (c:α->Int)(l:List α):Nat:=l.findIdx (fun x=>decide (0<=c x))
def v0a (c:α->Int)(l:List α):Bool:=if h:y04 c l<l.length then decide (c l[y04 c l]=0) else false
theorem j2u {c:α->Int}{l:List α}{i:Nat}(h2:i<=l.length)(h3:∀ k,k<i->∀ h:k<l.length,c l[k]<0)(h4:∀ k,i<=k->∀ h:k<l.length,0<=c l[k]):i=y04 c l/\v0a c l=(if h:i<l.length then decide (c l[i]=0) else false):=by
 have e:y04 c l=i:=by
  unfold y04
  rcases Nat.lt_or_ge i l.length with hil | hil
  ·rw [List.findIdx_eq hil]
   refine⟨by simpa using h4 i (Nat.le_refl _) hil,fun k hk=>?_⟩
   have:=h3 k hk (by omega)
   simpa using this
  ·rw [List.findIdx_eq_length.2]
   ·omega
   ·intro x hx
    obtain⟨k,hk,rfl⟩:=List.mem_iff_getElem.1 hx
    have:=h3 k (by omega) hk
    simpa using this
 subst e
 exact⟨rfl,rfl⟩
end
open Go.Pv
set_option maxRecDepth 100000
set_option maxHeartbeats 4000000
theorem z6x (g:FuncId)(c:Note->Int)(y:Note)(t:Bool)(l:List Note)(hl:l.length<=1024)(hm:Falls c l)(st:q5f)(hg:∀ x ∈ l,∀ st',StLe st st'->Rets P g [x.pv,y.pv] st' (.int (c x))):Rets P F.q0g [Note.lst t l,y.pv,.func (.func g) [] []] st (.tuple [.int (y04 c l),.bool (v0a c l)]):=by
 refine H.q0g.view q5n rfl rfl ?_
 repeat' (first 
  | (with_reducible refine Fresh.intro fun b hb=>?_) <;> (try simp -dsimp -implicitDefEqProofs [*] at hb)
  | (simp -dsimp -implicitDefEqProofs [*]))
 revert b; intro q hq
 refine q5h (fun x:Nat × Nat=>[(0,Note.lst t l),(4,.ptr q 0),(2,.func (.func g) [] []),(8,.int l.length),(9,.int (x.1:Nat)),(10,.int (x.2:Nat))]) (fun _=>(q,.arr T.apiNote y.enc)::st)
  (fun x=>x.1<=x.2/\x.2<=l.length/\Hid ((∀ k,k<x.1->∀ h:k<l.length,c l[k]<0)/\(∀ k,x.2<=k->∀ h:k<l.length,0<=c l[k]))) (fun x=>x.2-x.1) (0,l.length) ⟨Nat.zero_le _,Nat.le_refl _,⟨fun k h=>absurd h (by simp),fun k h1 h2=>absurd h1 (by simp only; omega)⟩⟩ (by simp) (.refl _) ?_
 rintro⟨i,j⟩ ⟨h1,h2,h3⟩
 replace h1:i<=j:=h1
 replace h2:j<=l.length:=h2
 replace h3:Hid ((∀ k,k<i->∀ h:k<l.length,c l[k]<0)/\(∀ k,j<=k->∀ h:k<l.length,0<=c l[k])):=h3
 by_cases hij:i<j
 ·have hm1:IntKind.i64.wrap ((i:Int)+j)=(i:Int)+j:=q5l (by omega) (by omega)
  have hm2:IntKind.u64.wrap ((i:Int)+j)=(i:Int)+j:=q7n (by omega) (by omega)
  have hm3:=j4n (i:=i) (j:=j) (by omega)
  obtain⟨m,hmd⟩:∃ m,m=(i+j) / 2:=⟨_,rfl⟩
  rw [<-hmd] at hm3
  have hm4:=q5i (n:=m) (by omega)
  have him:i<=m/\m<j:=by omega
  have hml:m<l.length:=by omega
  have s0:=Note.row_sub l m hml
  have hk:m*24<l.length*24:=by omega
  have hc:=hg l[m] (List.getElem_mem hml) ((q,.arr T.apiNote y.enc)::st) (.fresh hq)
  have f1:Hid (c l[m]<0->(∀ k,k<m+1->∀ h:k<l.length,c l[k]<0)/\(∀ k,j<=k->∀ h:k<l.length,0<=c l[k])):=⟨fun hn=>⟨fun k hk h=>if e:k=m then by subst e; exact hn else hm.out k m (by omega) hml hn (h':=h),h3.out.2⟩⟩
  have f2:Hid (0<=c l[m]->(∀ k,k<i->∀ h:k<l.length,c l[k]<0)/\(∀ k,m<=k->∀ h:k<l.length,0<=c l[k])):=⟨fun hp=>⟨h3.out.1,fun k hk h=>Int.not_lt.1 fun hn=>by
   by_cases e:k=m
   ·subst e; omega
   ·have:=hm.out m k (by omega) h hn (h':=hml); omega⟩⟩
  obtain⟨x,hx⟩:∃ x,x=l[m]:=⟨_,rfl⟩
  rw [<-hx] at s0 hc f1 f2
  obtain⟨v,hv⟩:∃ v,v=c x:=⟨_,rfl⟩
  rw [<-hv] at hc f1 f2
  clear hmd hx hv h3 hg hm
  by_cases hv0:v<0
  ·have h5:=Hid.mk (f1.out hv0)
   clear f1 f2
   repeat' (first 
    | (with_reducible refine Rets.xcall (hc) ?_)
    | (with_reducible refine DrawLate.intro [] ?_)
    | (simp -dsimp -implicitDefEqProofs [*]))
   exact Next.intro (m+1,j) ⟨by simp only; omega,h2,h5⟩ (by simp only; omega) (by simp) q5o
  ·have hv1:0<=v:=by omega
   have h5:=Hid.mk (f2.out hv1)
   clear f1 f2
   repeat' (first 
    | (with_reducible refine Rets.xcall (hc) ?_)
    | (with_reducible refine DrawLate.intro [] ?_)
    | (simp -dsimp -implicitDefEqProofs [*]))
   exact Next.intro (i,m) ⟨by simp only; omega,by simp only; omega,h5⟩ (by simp only; omega) (by simp) q5o
 ·obtain rfl:j=i:=by omega
  obtain⟨e1,e2⟩:=j2u h2 h3.out.1 h3.out.2
  rw [<-e1,e2]
  have kl:(j:Int)<l.length ↔ j<l.length:=by omega
  clear h3
  by_cases hjl:j<l.length
  ·have s0:=Note.row_sub l j hjl
   have hk:j*24<l.length*24:=by omega
   have hc:=hg l[j] (List.getElem_mem hjl) ((q,.arr T.apiNote y.enc)::st) (.fresh hq)
   have hjl2:(j:Int)<l.length:=by omega
   rw [dif_pos hjl]
   obtain⟨x,hx⟩:∃ x,x=l[j]:=⟨_,rfl⟩
   rw [<-hx] at s0 hc ⊢
   obtain⟨v,hv⟩:∃ v,v=c x:=⟨_,rfl⟩
   rw [<-hv] at hc ⊢
   clear hx hv hg hm e1 e2 kl
   repeat' (first 
    | (with_reducible refine Rets.xcall (hc) ?_)
    | (with_reducible refine DrawLate.intro [] ?_)
    | (simp -dsimp -implicitDefEqProofs [*]))
   exact RetView.drop (st':=st) q5o ⟨rfl,rfl⟩
  ·have hjl2:¬ (j:Int)<l.length:=by omega
   rw [dif_neg hjl]
   clear hg hm e1 e2 kl
   repeat' (first 
    | (with_reducible refine DrawLate.intro [] ?_)
    | (simp -dsimp -implicitDefEqProofs [*]))
   exact RetView.drop (st':=st) q5o ⟨rfl,rfl⟩
open Go.Pv
set_option maxRecDepth 100000
set_option maxHeartbeats 8000000
def y70 (l:List Note)(cap:Nat):PObj:=.arr T.apiNote (Note.row l++List.replicate ((cap-l.length)*24) .any)
def y20 (l:List Note)(st:q5f)(e:PEnd)(s:q5f):Prop:=
 l=[]/\e=.ret (.list true [] 0)/\s=st\/∃ b cap,q54 st b/\l.length<=cap/\cap<=9223372036854775807/\e=.ret (.own b 0 l.length cap)/\s=(b,y70 l cap)::st
theorem j2v (t:Bool)(l:List Note)(hl:l.length<=1024)(st:q5f):PCalls P F.q1n [Note.lst t l] st (y20 l st):=by
 refine H.q1n.view q5n rfl rfl ?_
 repeat' (first 
  | (with_reducible refine Lit.imm ?_)
  | ((with_reducible refine Grow.intro ?_ fun b cap hb hc1 hc2=>?_); omega) <;> (try simp -dsimp -implicitDefEqProofs [*] at hb)
  | (with_reducible refine And.intro (fun h=>?_) (fun h=>?_)) <;> (try (exfalso; omega))
  | (with_reducible refine And.intro (fun h=>?_) ?_) <;> (try (exfalso; omega))
  | (simp -dsimp -implicitDefEqProofs [*]))
 ·exact .sees (.nil _) (.same (.inl ⟨rfl,rfl,rfl⟩))
 ·exact .same (.inl ⟨rfl,rfl,rfl⟩)
 ·exact .same (.inr ⟨_,_,hb,hc1,hc2,rfl,rfl⟩)
theorem z0r (x:Note)(b off n' cap:Nat)(row:List PV)(st:q5f)(hg:q55 st b=some (.arr T.apiNote row)):Rets P F.q4t [.list true x.enc 1,.own b off n' cap] st (.bool false):=
 z5l (tR:=T.bool) (k:=24) (ag:=true) Tryz.func187 (by kernel_rfl) (by kernel_rfl) (by kernel_rfl) (by kernel_rfl) Tryz.underlying58 (by kernel_rfl) (by omega) (by simp) hg
def j8y (l:List Note)(i:Nat)(x:Note)(st:q5f)(e:PEnd)(s:q5f):Prop:=e=.ret (Note.lst false (ins l i x))/\s=st
theorem j1d (l:List Note)(i:Nat)(x:Note):Note.row (ins l i x)=Note.row (l.take i)++x.enc++Note.row (l.drop i):=by
 simp [ins,Note.row_append]
theorem z17 (l:List Note)(i:Nat)(x:Note)(hi:i<=l.length)(Y:List PV)(hY:24+(l.length-i)*24<=Y.length) :
  (q5j (q5j (Note.row (l.take i)++Y) ((i+1)*24) (Note.row (l.drop i))) (i*24) x.enc).take ((l.length+1)*24)=Note.row (ins l i x) ∧
  (q5j (q5j (Note.row (l.take i)++Y) (i*24) x.enc) ((i+1)*24) (Note.row (l.drop i))).take ((l.length+1)*24)=Note.row (ins l i x):=by
 have h1:(Note.row (l.take i)).length=i*24:=by simp; omega
 have h2:(Note.row (l.drop i)).length=(l.length-i)*24:=by simp
 have h3:x.enc.length=24:=x.len
 have:=z5j (Note.row (l.take i)) Y x.enc (Note.row (l.drop i)) (by omega)
 rw [h1,h2,h3,show i*24+24=(i+1)*24 by omega,show (i+1)*24+(l.length-i)*24=(l.length+1)*24 by omega] at this
 rw [j1d]
 exact this
theorem k62 (l:List Note)(i:Nat)(C:List PV)(h:i<=l.length):(Note.row l++C).take (i*24)=Note.row (l.take i)/\((Note.row l++C).drop (i*24)).take ((l.length-i)*24)=Note.row (l.drop i):=by
 have h1:(Note.row (l.take i)).length=i*24:=by simp; omega
 have h2:(Note.row (l.drop i)).length=(l.length-i)*24:=by simp
 have e:Note.row l=Note.row (l.take i)++Note.row (l.drop i):=by rw [<-Note.row_append,List.take_append_drop]
 rw [e,List.append_assoc]
 exact⟨List.take_left' h1,by rw [List.drop_left' h1,List.take_left' h2]⟩
theorem z9l (l:List Note)(hl:l.length<=1024)(i:Nat)(hi:i<=l.length)(x:Note)(b cap:Nat)(hc1:l.length<=cap)(hc2:cap<=9223372036854775807)(R:List PV)(hR1:R.length=cap*24)(hR2:∃ C,R=Note.row l++C)
  (st:q5f) (hb:q54 st b) :
  PCalls P F.q0x [.own b 0 l.length cap,.int i,.list true x.enc 1] ((b,.arr T.apiNote R)::st) (j8y l i x st):=by
 have hw:IntKind.i64.wrap ((l.length:Int)+1)=(l.length:Int)+1:=q5i (by omega)
 have hw2:IntKind.i64.wrap ((l.length:Int)+1-i)=(l.length:Int)+1-i:=q5l (by omega) (by omega)
 have hw3:IntKind.i64.wrap ((i:Int)+1)=(i:Int)+1:=q5i (by omega)
 have ht1:((l.length:Int)+1-i).toNat=l.length+1-i:=by omega
 have ht2:((i:Int)+1).toNat=i+1:=by omega
 have ht3:((l.length:Int)+1).toNat=l.length+1:=by omega
 have ht4:i+(l.length+1-i)=l.length+1:=by omega
 have hm1:min (l.length+1-i) (l.length-i)=l.length-i:=by omega
 have hm2:min 1 (l.length+1-i)=1:=by omega
 refine H.q0x.view q5n rfl rfl ?_
 rcases Nat.lt_or_ge i l.length with hil | hil
 ·have hm3:min (l.length-i) (l.length-i)=l.length-i:=by omega
  rcases Nat.lt_or_ge cap (l.length+1) with hcap | hcap
  ·have hq1:i*24+(l.length-i)*24<=cap*24:=by omega
   repeat' (first 
    | (with_reducible refine And.intro (fun h=>?_) (fun h=>?_)) <;> (try (exfalso; omega))
    | ((with_reducible refine q5v ?_ fun hk=>?_); omega)
    | (simp -dsimp -implicitDefEqProofs [*]))
   refine z5c (row:=R) (by simp) (by simp [hR1]) (by omega) hc2 (by omega) (fun h=>absurd h (by omega)) fun _=>?_
   have hq4:(i+1)*24+(l.length-i)*24<=i*24+((l.length+1-i)*24+(cap-(l.length+1))*24):=by omega
   have hq5:i*24+24<=i*24+((l.length+1-i)*24+(cap-(l.length+1))*24):=by omega
   have hq6:min (i*24) (cap*24)=i*24:=by omega
   repeat' (first 
    | ((with_reducible refine Grow.intro ?_ fun b cap hb hc1 hc2=>?_); omega) <;> (try simp -dsimp -implicitDefEqProofs [*] at hb)
    | (with_reducible refine RetView.fz 24 ?_ ?_)
    | (with_reducible refine RetView.same ?_)
    | (with_reducible refine And.intro (fun h=>?_) (fun h=>?_)) <;> (try (exfalso; omega))
    | (with_reducible refine And.intro (fun h=>?_) ?_) <;> (try (exfalso; omega))
    | ((with_reducible refine q5v ?_ fun hk=>?_); omega)
    | (simp -dsimp -implicitDefEqProofs [*]))
   refine⟨?_,rfl⟩
   obtain⟨C,rfl⟩:=hR2
   have h1:=k62 l i C hi
   have h2:List.take 24 x.enc=x.enc:=List.take_of_length_le (by simp)
   rw [List.take_take,Nat.min_self,h1.1,h1.2,h2,(z17 l i x hi _ (by simp; omega)).2]
   simp [z34,hi]
  ·have hq1:i*24+(l.length+1-i)*24<=cap*24:=by omega
   have hq2:(i+1)*24+(l.length-i)*24<=cap*24:=by omega
   have hq3:i*24+24<=cap*24:=by omega
   repeat' (first 
    | (with_reducible refine Rets.xcall (z0r _ _ _ _ _ R _ (by simp)) ?_)
    | (with_reducible refine RetView.fz 24 ?_ ?_)
    | (with_reducible refine RetView.same ?_)
    | (with_reducible refine And.intro (fun h=>?_) (fun h=>?_)) <;> (try (exfalso; omega))
    | (with_reducible refine And.intro (fun h=>?_) ?_) <;> (try (exfalso; omega))
    | ((with_reducible refine q5v ?_ fun hk=>?_); omega)
    | (simp -dsimp -implicitDefEqProofs [*]))
   refine⟨?_,rfl⟩
   obtain⟨C,rfl⟩:=hR2
   have h1:=k62 l i C hi
   have h2:List.take 24 x.enc=x.enc:=List.take_of_length_le (by simp)
   have e:Note.row l=Note.row (l.take i)++Note.row (l.drop i):=by rw [<-Note.row_append,List.take_append_drop]
   have h3:(l.length-i)*24<=(l.length+1-i)*24:=by omega
   rw [List.take_take,Nat.min_eq_left h3,h1.2,h2,e,List.append_assoc]
   rw [e,List.append_assoc] at hR1
   have h4:(Note.row (List.take i l)).length=i*24:=by simp; omega
   rw [List.length_append,h4] at hR1
   rw [(z17 l i x hi _ (by omega)).1]
   simp [z34,hi]
 ·obtain rfl:i=l.length:=by omega
  have hfin:∀ D,List.take ((l.length+1)*24) (List.take (l.length*24) R++(x.enc++D))=Note.row (ins l l.length x):=by
   intro D
   obtain⟨C,rfl⟩:=hR2
   rw [(k62 l l.length C (Nat.le_refl _)).1,j1d,List.take_length,List.drop_length,<-List.append_assoc,List.take_left' (by simp; omega)]
   simp
  repeat' (first 
   | (with_reducible refine And.intro (fun h=>?_) (fun h=>?_)) <;> (try (exfalso; omega))
   | (simp -dsimp -implicitDefEqProofs [*]))
  ·refine k2a (row:=R) (by simp) hR1 hc1 hc2 ?_
   repeat' (first 
    | ((with_reducible refine Grow.intro ?_ fun b cap hb hc1 hc2=>?_); omega) <;> (try simp -dsimp -implicitDefEqProofs [*] at hb)
    | (with_reducible refine RetView.fz 24 ?_ ?_)
    | (with_reducible refine RetView.same ?_)
    | (simp -dsimp -implicitDefEqProofs [*]))
   simp_all [j8y,z34]
  ·refine k2a (row:=R) (by simp) hR1 hc1 hc2 ?_
   repeat' (first 
    | ((with_reducible refine Grow.intro ?_ fun b cap hb hc1 hc2=>?_); omega) <;> (try simp -dsimp -implicitDefEqProofs [*] at hb)
    | (with_reducible refine RetView.fz 24 ?_ ?_)
    | (with_reducible refine RetView.same ?_)
    | (simp -dsimp -implicitDefEqProofs [*]))
   simp_all [j8y,z34]
theorem j8z (x:Note)(st:q5f):PCalls P F.q0x [.list true [] 0,.int (0:Nat),.list true x.enc 1] st (j8y [] 0 x st):=by
 refine H.q0x.view q5n rfl rfl ?_
 repeat' (first 
  | ((with_reducible refine Grow.intro ?_ fun b cap hb hc1 hc2=>?_); omega) <;> (try simp -dsimp -implicitDefEqProofs [*] at hb)
  | (with_reducible refine RetView.fz 24 ?_ ?_)
  | (with_reducible refine RetView.same ?_)
  | (simp -dsimp -implicitDefEqProofs [*]))
 refine⟨?_,rfl⟩
 simp [ins]
open Go.Pv
set_option maxRecDepth 100000
set_option maxHeartbeats 8000000
theorem k9x (c:Note->Note->Int)(x:Note):∀ l:List Note,y04 (fun y=>c y x) l=k9e c l x
 | []=>rfl
 | y::l=>by
  have ih:=k9x c x l
  unfold y04 k9e at ih ⊢
  rw [List.findIdx_cons,List.takeWhile_cons]
  by_cases h:c y x<0
  ·have h2:¬ 0<=c y x:=by omega
   rw [decide_eq_true h,decide_eq_false h2]
   simp only [cond_false,if_true,List.length_cons]
   rw [ih]
  ·have h2:0<=c y x:=by omega
   rw [decide_eq_false h,decide_eq_true h2]
   rfl
theorem j2w {l:List Note}(h:Rise q6p okN l)(x:Note):Falls (fun y=>q6p y x) l:=
 ⟨fun a b hab hb hc ha=>cmpN_ord.trans _ _ _ (List.pairwise_iff_getElem.1 h.2 a b ha hb hab) hc⟩
theorem j80 {l:List Note}(h:Rise q6p okN l){x:Note}(hx:okN x):v0a (fun y=>q6p y x) l=decide (x ∈ l):=by
 unfold v0a
 rw [Bool.eq_iff_iff,decide_eq_true_eq,j49 cmpN_ord h]
 simp only [k9x]
 split
 ·rename_i hl
  rw [List.getElem?_eq_getElem hl,decide_eq_true_eq]
  constructor
  ·intro he
   rw [cmpN_ord.eq _ _ (h.1 _ (List.getElem_mem hl)) hx he]
  ·intro he
   rw [Option.some.inj he]
   exact cmpN_ord.self x
 ·rename_i hl
  rw [List.getElem?_eq_none (by omega)]
  simp
theorem z6y {l:List Note}(h:Rise q6p okN l)(hl:l.length<=1000){x:Note}(hx:okN x)(st:q5f) :
  Rets P F.q0g [Note.lst false l,x.pv,.func (.func F.q09) [] []] st (.tuple [.int (k9e q6p l x),.bool (decide (x ∈ l))]):=by
 have:=z6x F.q09 (fun y=>q6p y x) x false l (by omega) (j2w h x) st fun y hy st _=>k3c y x (h.1 y hy) hx st
 rwa [k9x,j80 h hx] at this
abbrev k8e (ap:List Lk)(pb n cap:Nat)(q:List Pk):PObj:=.arr T.q47 [.own pb 0 n cap,Pk.lst false q,Lk.lst false ap]
abbrev k63 (peers:List (List Note))(C:List PV):PObj:=.arr T.apiPeer (prR peers++C)
theorem z18 (ap:List Lk)(peers:List (List Note))(C:List PV)(q:List Pk)(i cap:Nat)(hi:i<peers.length)(hp:peers.length<=24)(hcap:peers.length<=cap/\cap<=9223372036854775807)(hr:Rise q6p okN peers[i])(hl:peers[i].length<=1000)(x:Note)(hx:okN x)(cb pb:Nat)(st:q5f)(hcb:q54 st cb)(hpb:q54 st pb)(hne:¬ cb=pb/\¬ pb=cb) :
  Does P F.q1u [.ptr cb 0,.int i,x.pv] ((cb,k8e ap pb peers.length cap q)::(pb,k63 peers C)::st) (.tuple []) ((cb,k8e ap pb peers.length cap q)::(pb,k63 (peers.set i (k78 q6p peers[i] x)) C)::st):=by
 have sr:=fun st=>z6y hr hl hx st
 have hpos:=j47 (c:=q6p) peers[i] x
 have hpl:=q71 peers
 have g1:(prR peers++C)[i]?=some (Note.lst false peers[i]):=by rw [List.getElem?_append_left (by rw [hpl]; exact hi),k3f hi]
 have G1:=q6v g1
 by_cases hm:x ∈ peers[i]
 ·have e:peers.set i (k78 q6p peers[i] x)=peers:=by unfold k78; rw [if_pos hm]; exact List.set_getElem_self hi
  rw [e]
  rw [decide_eq_true hm] at sr
  clear e hm hr
  generalize k9e q6p peers[i] x=k at *
  generalize peers[i]=l at *
  refine H.q1u.view q5n rfl rfl ?_
  repeat' (first 
   | (with_reducible refine Fresh.intro fun b hb=>?_) <;> (try simp -dsimp -implicitDefEqProofs [*] at hb)
   | (with_reducible refine Rets.xcall (sr _) ?_)
   | (with_reducible refine DrawLate.intro [] ?_)
   | (simp -dsimp -implicitDefEqProofs [*]))
  exact RetView.drop (st':=(cb,k8e ap pb peers.length cap q)::(pb,k63 peers C)::st) q5o ⟨rfl,rfl⟩
 ·have e:k78 q6p peers[i] x=ins peers[i] (k9e q6p peers[i] x) x:=by unfold k78 ins; rw [if_neg hm]
  rw [e]
  rw [decide_eq_false hm] at sr
  clear e hm hr
  generalize k9e q6p peers[i] x=k at *
  have hset:∀ l',(prR peers++C).set i (Note.lst false l')=prR (peers.set i l')++C:=fun l'=>by
   rw [List.set_append_left _ _ (by rw [hpl]; exact hi)]
   unfold prR
   rw [List.map_set]
  generalize peers[i]=l at *
  have hl4:(l.length:Int)<4096:=by omega
  refine H.q1u.view q5n rfl rfl ?_
  repeat' (first 
   | (with_reducible refine Fresh.intro fun b hb=>?_) <;> (try simp -dsimp -implicitDefEqProofs [*] at hb)
   | (with_reducible refine Rets.xcall (sr _) ?_)
   | (with_reducible refine Rets.xcall (q82 _ _) ?_)
   | (with_reducible refine DrawLate.intro [] ?_)
   | (simp -dsimp -implicitDefEqProofs [*]))
  clear sr
  refine q5k (j2v false l (by omega) _) fun e s hs=>?_
  rcases hs with⟨rfl,rfl,rfl⟩|⟨b2,cap2,hb2,hc1,hc2,rfl,rfl⟩
  ·have hk0:k=0:=by simpa using hpos
   subst hk0
   rw [q5x]
   repeat' (first 
    | (with_reducible refine q6f ?_ ?_)
    | (with_reducible exact Cls.self _ _)
    | (simp -dsimp -implicitDefEqProofs [*]))
   refine q5k (j8z x _) fun e s hs=>?_
   obtain⟨rfl,rfl⟩:=hs
   rw [q5x]
   have hs2:=hset (ins [] 0 x)
   clear hset
   repeat' (first 
    | (with_reducible refine q6f ?_ ?_)
    | (with_reducible exact Cls.self _ _)
    | ((with_reducible refine q5v ?_ fun hk=>?_); omega)
    | (simp -dsimp -implicitDefEqProofs [*]))
   exact RetView.drop (st':=(cb,k8e ap pb peers.length cap q)::(pb,k63 (peers.set i (ins [] 0 x)) C)::st) q5o ⟨rfl,rfl⟩
  ·rw [q5x]
   repeat' (first 
    | (with_reducible refine q6f ?_ ?_)
    | (with_reducible exact Cls.self _ _)
    | (with_reducible refine q6i ?_ ?_)
    | (simp -dsimp -implicitDefEqProofs [*]))
   unfold y70
   refine q5k (z9l l (by omega) k hpos x b2 cap2 hc1 hc2 (Note.row l++List.replicate ((cap2-l.length)*24) .any) (by simp; omega) ⟨_,rfl⟩ ((b,.arr T.apiNote x.enc)::(cb,k8e ap pb peers.length cap q)::(pb,k63 peers C)::st) hb2) fun e s hs=>?_
   obtain⟨rfl,rfl⟩:=hs
   rw [q5x]
   have hs2:=hset (ins l k x)
   clear hset
   repeat' (first 
    | (with_reducible refine q6f ?_ ?_)
    | (with_reducible exact Cls.self _ _)
    | ((with_reducible refine q5v ?_ fun hk=>?_); omega)
    | (simp -dsimp -implicitDefEqProofs [*]))
   exact RetView.drop (st':=(cb,k8e ap pb peers.length cap q)::(pb,k63 (peers.set i (ins l k x)) C)::st) q5o ⟨rfl,rfl⟩
open Go.Pv Go.Pv.Cd
set_option maxRecDepth 100000
set_option maxHeartbeats 4000000
set_option linter.unusedVariables false
theorem k6e (ap:List Lk)(pb m cap:Nat)(q:List Pk)(k:Int)(hk:0<=k/\k<m)(cb:Nat)(st:q5f)(hcb:q55 st cb=some (k8e ap pb m cap q)):Rets P F.q1f [.ptr cb 0,.int k] st (.tuple []):=by
 have h1:=hk.1
 have h2:=hk.2
 refine H.q1f.pure q5n rfl rfl ?_
 repeat' (first 
  | (with_reducible refine Rets.xcall (q82 _ _) ?_)
  | (simp -dsimp -implicitDefEqProofs [*]))
theorem z35 (ap:List Lk)(pb m cap:Nat)(q:List Pk)(k:Int)(hk:¬ (0<=k/\k<m))(cb:Nat)(st:q5f)(hcb:q55 st cb=some (k8e ap pb m cap q)):Panics P F.q1f [.ptr cb 0,.int k] st (.iface T.apiErrno (.int 1)):=by
 refine H.q1f.panics q5n rfl rfl ?_
 by_cases h1:0<=k
 ·have h2:¬ k<m:=by omega
  clear hk
  repeat' (first 
   | (with_reducible refine Panics.xcall (k0x _ _) ?_)
   | (simp -dsimp -implicitDefEqProofs [*]))
 ·clear hk
  repeat' (first 
   | (with_reducible refine Panics.xcall (k0x _ _) ?_)
   | (simp -dsimp -implicitDefEqProofs [*]))
@[simp] theorem v14 {b:Nat}{o:PObj}{st:q5f}:Cls [(b,o)] [] st=(q55 st b=some o):=by
 apply propext
 constructor
 ·intro h
  exact h b List.not_mem_nil o (by simp [q55])
 ·intro h c _ x hx
  simp only [q55] at hx
  split at hx
  ·rename_i e
   subst e
   rw [h,Option.some.inj hx]
  ·cases hx
def j56 (P:Program)(g:FuncId)(fs cs:List PV)(xs:List PV)(ok:q5f->Prop):Prop:=
 ∀ (σ:Type) (S:σ->q5f) (inv:List PV->σ->Prop) (l:Nat),(∀ pre s,inv pre s->ok (S s)) ->
  (∀ pre x s,inv pre s->pre++[x] <+: xs->PRound P l [x] (S s) fun e st'=>e=.ret (.bool true)/\∃ s',inv (pre++[x]) s'/\st'=S s') ->
  ∀ s,inv [] s->PCalls P g (fs++[.func (.yield l) [] []]++cs) (S s) fun e st'=>e=.ret (.tuple [])/\∃ s',inv xs s'/\st'=S s'
def y71 (q xs:List Pk)(pre:List PV)(q1:List Pk):Prop:=∃ k,k<=xs.length/\pre=(xs.take k).map Pk.pv/\q1=q++xs.take k
theorem z19 {ap:List Lk}(hap:LksOK ap){g:FuncId}{cs:List PV}{xs:List Pk}{ok:q5f->Prop}(hent:k0b P g)(q:List Pk)(pb m cap cb:Nat)(st:q5f)(hy:j56 P g [] cs (xs.map Pk.pv) ok)(hok:∀ q' s,StLe ((cb,k8e ap pb m cap q')::st) s->ok s)
  (hq:∀ p ∈ q++xs,pkB p=true) (hl:q.length+xs.length<=4096) (hcb:q54 st cb) :
  Does P F.q2e [.ptr cb 0,.func (.func g) [] cs] ((cb,k8e ap pb m cap q)::st) (.tuple []) ((cb,k8e ap pb m cap (q++xs))::st):=by
 refine H.q2e.view q5n rfl rfl ?_
 repeat' (first 
  | (with_reducible refine Fresh.intro fun b hb=>?_) <;> (try simp -dsimp -implicitDefEqProofs [*] at hb)
  | (simp -dsimp -implicitDefEqProofs [*]))
 revert b; intro bb hbb
 refine z75 hent fun key hkey lp hlp=>?_
 simp -dsimp -implicitDefEqProofs [*] at hlp
 have hs0:∀ k,∀ p ∈ q++xs.take k,pkB p=true:=fun k p hp=>hq p ((List.mem_append.1 hp).elim (fun h=>List.mem_append_left _ h) fun h=>List.mem_append_right _ (List.mem_of_mem_take h))
 refine q5k (hy (List Pk) (fun q1=>(lp,.loop key [(7,.func (.func g) [] cs),(2,.ptr bb 0),(0,.ptr cb 0),(1,.func (.func g) [] cs)] .ready none)::(bb,.arr T.q49 [.ptr cb 0])::(cb,k8e ap pb m cap q1)::st)
  (y71 q xs) lp ?_ ?_ q ⟨0,Nat.zero_le _,rfl,by simp⟩) ?_
 ·exact fun _ q1 _=>hok q1 _ q5o
 ·rintro pre x q1 ⟨k,hk,rfl,rfl⟩ hpx
  have hlen:=z8d hpx
  have e1:((xs.take k).map Pk.pv).length=k:=by rw [List.length_map,List.length_take]; omega
  rw [e1,List.length_map] at hlen
  have e2:x=xs[k].pv:=by
   have:=hpx.getElem (i:=k) (by rw [List.length_append,e1]; simp)
   rw [List.getElem_append_right (by rw [e1]; exact Nat.le_refl _),List.getElem_map] at this
   simpa [e1] using this
  subst e2
  have e3:xs.take (k+1)=xs.take k++[xs[k]]:=List.take_succ_eq_append_getElem hlen
  have e4:q++xs.take (k+1)=q++xs.take k++[xs[k]]:=by rw [e3,List.append_assoc]
  have w:=fun st=>z15 (q++xs.take k) ap hap.1 (by rw [List.length_append,List.length_take]; omega) (hap.net (by rw [List.length_append,List.length_take]; omega) (hs0 k)) xs[k] (hq _ (List.mem_append_right _ (List.getElem_mem hlen))) st
  rw [<-e4] at w
  have fin:y71 q xs ((xs.take k).map Pk.pv++[xs[k].pv]) (q++xs.take (k+1)):=⟨k+1,hlen,by rw [e3,List.map_append]; rfl,rfl⟩
  clear hpx e1
  generalize (xs.take k).map Pk.pv++[xs[k].pv]=pre2 at *
  generalize q++xs.take (k+1)=q2 at *
  generalize q++xs.take k=q1 at *
  generalize xs[k]=x at *
  refine z5m q5n hkey (by simp [*] <;> rfl) rfl ?_
  clear hkey hy hok e3 e4 hs0 hq hl
  repeat' (first 
   | (with_reducible refine Fresh.intro fun b hb=>?_) <;> (try simp -dsimp -implicitDefEqProofs [*] at hb)
   | (with_reducible refine q56 (fun _=>w _) ?_)
   | (with_reducible refine Rets.xcall (q82 _ _) ?_)
   | (with_reducible refine DrawLate.intro [] ?_)
   | (with_reducible refine q6f ?_ ?_)
   | (with_reducible exact Cls.self _ _)
   | (with_reducible refine q6i ?_ ?_)
   | (simp -dsimp -implicitDefEqProofs [*]))
  exact⟨_,q5o,q2,fin,rfl⟩
 ·rintro e s ⟨rfl,q1,⟨k,hk,e1,rfl⟩,rfl⟩
  have e2:xs.take k=xs:=by
   have:=congrArg List.length e1
   rw [List.length_map,List.length_map,List.length_take] at this
   exact List.take_of_length_le (by omega)
  rw [e2]
  clear hkey hy hok hs0 hq hl e1 e2
  repeat' (simp -dsimp -implicitDefEqProofs [*])
  exact RetView.drop (st':=(cb,k8e ap pb m cap (q++xs))::st) q5o ⟨rfl,rfl⟩
theorem k64 (l:List (BitVec 8)):PV.list false (k1t (k60 l)) (k60 l).size=q53 false l:=by
 rw [k9b,k1o]
 have:(k60 l).data.toList.map (·.toBitVec)=l:=by
  show ((l.map UInt8.ofBitVec).toArray.toList).map (·.toBitVec)=l
  simp [Function.comp_def]
 rw [this]
def mvE (m:Mv Note):List PV:=.int m.kind::.int m.peer::.int m.to::.int m.at'::m.note.enc
section
variable (x:Mv Note) (b k:Nat) (o:PObj)
@[simp] theorem v15:(mvE x).length=28:=rfl
@[simp] theorem v16:sub (mvE x) 0 28=some (mvE x):=rfl
@[simp] theorem mvE_0:(mvE x)[0]?=some (.int x.kind):=rfl
@[simp] theorem mvE_1:(mvE x)[1]?=some (.int x.peer):=rfl
@[simp] theorem mvE_2:(mvE x)[2]?=some (.int x.to):=rfl
@[simp] theorem mvE_3:(mvE x)[3]?=some (.int x.at'):=rfl
@[simp] theorem v0b:sub (mvE x) 4 24=some x.note.enc:=rfl
end
structure OkT (ap:List Lk)(pb m cap cb bc bm:Nat)(x:Mv Note)(peers:List (List Note))(C:List PV)(st:q5f):Prop where
 bc:q55 st bc=some (.arr T.q49 [.ptr cb 0])
 bm:q55 st bm=some (.arr T.apiMove (mvE x))
 cb:∃ q,q55 st cb=some (k8e ap pb m cap q)
 pb:q55 st pb=some (k63 peers C)
section
variable (x:Mv Note)
@[simp] theorem mvE_e0 (h:0<(mvE x).length):(mvE x)[0]'h=.int x.kind:=rfl
@[simp] theorem mvE_e1 (h:1<(mvE x).length):(mvE x)[1]'h=.int x.peer:=rfl
@[simp] theorem mvE_e2 (h:2<(mvE x).length):(mvE x)[2]'h=.int x.to:=rfl
@[simp] theorem mvE_e3 (h:3<(mvE x).length):(mvE x)[3]'h=.int x.at':=rfl
end
def k2p (j:Nat)(n:Note)(m:Nat):List Pk:=((List.range m).filter fun i=>decide (i ≠ j)).map fun i=>q6d (j,i,n)
theorem k65 (j:Nat)(n:Note)(i:Nat):k2p j n (i+1)=k2p j n i++if i=j then [] else [q6d (j,i,n)]:=by
 unfold k2p
 rw [List.range_succ,List.filter_append,List.map_append]
 congr 1
 by_cases h:i=j <;> simp [h]
theorem j57 (j:Nat)(n:Note){i m:Nat}(h:i<=m):k2p j n i <+: k2p j n m:=by
 obtain⟨k,rfl⟩:=Nat.exists_eq_add_of_le h
 clear h
 induction k with
 | zero=>exact List.prefix_refl _
 | succ k ih=>
  rw [<-Nat.add_assoc,k65]
  exact ih.trans (List.prefix_append _ _)
theorem z9m (ap:List Lk)(x:Mv Note)(hn:q5q x.note=true)(j:Nat)(hj:x.peer=j)(pb m cap cb bc bm:Nat)(hm:m<=24)(peers:List (List Note))(C:List PV) :
  j56 P F.q13 [] [.ptr bc 0,.ptr bm 0] ((k2p j x.note m).map Pk.pv) (OkT ap pb m cap cb bc bm x peers C):=by
 intro σ S inv lp hok hround s hs
 have ms:=fun st=>q9v x.note hn st
 have hmsg:=k04 hn
 have hK:=hok [] s hs
 obtain⟨h1,h2,⟨q,h3⟩, -⟩:=hK
 refine H.q13.view q5n rfl rfl ?_
 repeat' (simp -dsimp -implicitDefEqProofs [*])
 clear h3
 refine q5h (fun y:Nat × σ=>[(0,.func (.yield lp) [] []),(1,.ptr bc 0),(2,.ptr bm 0),(10,.int m),(11,.int y.1)]) (fun y=>S y.2)
  (fun y=>y.1<=m/\inv ((k2p j x.note y.1).map Pk.pv) y.2) (fun y=>m-y.1) (0,s) ⟨Nat.zero_le _,hs⟩ (by simp) (.refl _) ?_
 clear hs h1 h2
 rintro⟨i,s⟩ ⟨hi,hs⟩
 simp only at hi hs
 obtain⟨h1,h2, -, -⟩:=hok _ s hs
 by_cases hin:i<m
 ·have hwi:=q5i (n:=i) (by omega)
  by_cases hij:i=j
  ·subst hij
   have hst:=k65 i x.note i
   rw [if_pos rfl,List.append_nil] at hst
   rw [<-hst] at hs
   clear hst hround hok
   repeat' (simp -dsimp -implicitDefEqProofs [*])
   refine DrawLate.by (Cls [(bm,.arr T.apiMove (mvE x))] []) (by simp [*]) ?_
   repeat' (simp -dsimp -implicitDefEqProofs [*])
   exact Next.intro (i+1,s) ⟨hin,hs⟩ (by simp only; omega) (by simp) (.refl _)
  ·have hst:=k65 j x.note i
   rw [if_neg hij] at hst
   have hpre:=j57 j x.note (i:=i+1) (m:=m) hin
   have hij2:¬ (i:Int)=j:=by omega
   have hsz:(k60 (msg x.note)).size<=140737488355328:=by rw [k1o]; omega
   have hcl:∀ s,inv ((k2p j x.note (i+1)).map Pk.pv) s->q55 (S s) bm=some (.arr T.apiMove (mvE x)):=fun s h=>(hok _ s h).bm
   have hpv:(k2p j x.note (i+1)).map Pk.pv=(k2p j x.note i).map Pk.pv++[(q6d (j,i,x.note)).pv]:=by rw [hst,List.map_append]; rfl
   have hrd:=hround _ _ s hs (by rw [<-hpv]; exact hpre.map _)
   rw [<-hpv] at hrd
   have hcells:PV.list false (k1t (k60 (msg x.note))) (k60 (msg x.note)).size=q53 false (msg x.note):=k64 _
   clear hround hok hst hpre hpv hs
   repeat' (simp -dsimp -implicitDefEqProofs [*])
   refine DrawLate.by (Cls [(bm,.arr T.apiMove (mvE x))] []) (by simp [*]) ?_
   repeat' (first 
    | (with_reducible refine Rets.xcall (ms _) ?_)
    | (simp -dsimp -implicitDefEqProofs [*]))
   refine k87 hrd fun e st' hq=>?_
   obtain⟨rfl,s2,hs2,rfl⟩:=hq
   have hc2:=hcl s2 hs2
   clear hcl hrd
   repeat' (simp -dsimp -implicitDefEqProofs [*])
   exact Next.intro (i+1,s2) ⟨hin,hs2⟩ (by simp only; omega) (by simp) (.refl _)
 ·obtain rfl:i=m:=by omega
  clear hround hok
  repeat' (simp -dsimp -implicitDefEqProofs [*])
  exact .same ⟨rfl,s,hs,rfl⟩
def k34 (a b:Nat)(l:List Note):List Pk:=l.map fun n=>q6d (a,b,n)
theorem j2x (a b:Nat)(l:List Note)(i:Nat)(h:i<l.length):(k34 a b (l.take (i+1))).map Pk.pv=(k34 a b (l.take i)).map Pk.pv++[(q6d (a,b,l[i])).pv]:=by
 rw [List.take_succ_eq_append_getElem h]
 unfold k34
 rw [List.map_append,List.map_append]
 rfl
theorem j58 (a b:Nat)(l:List Note)(i:Nat):(k34 a b (l.take i)).map Pk.pv <+: (k34 a b l).map Pk.pv:=((List.take_prefix i l).map _).map _
theorem z9n (ap:List Lk)(x:Mv Note)(j t:Nat)(hj:x.peer=j)(ht:x.to=t)(pb m cap cb bc bm:Nat)(hm:m<=24)(peers:List (List Note))(C:List PV)(hp:peers.length=m)(hjm:j<m)(l:List Note)(hlj:peers[j]?=some l)(hl:l.length<=1000)(hf:∀ n ∈ l,q5q n=true) :
  j56 P F.q14 [] [.ptr bc 0,.ptr bm 0] ((k34 j t l).map Pk.pv) (OkT ap pb m cap cb bc bm x peers C):=by
 intro σ S inv lp hok hround s hs
 have hK:=hok [] s hs
 obtain⟨h1,h2,⟨q,h3⟩,h4⟩:=hK
 have hpl:=q71 peers
 have hjl:j<peers.length:=by omega
 have elj:peers[j]=l:=(List.getElem?_eq_some_iff.1 hlj).2
 have g1:(prR peers++C)[j]?=some (Note.lst false l):=by rw [List.getElem?_append_left (by rw [hpl]; exact hjl),k3f hjl,elj]
 have G1:=q6v g1
 subst elj
 generalize peers[j]=l at *
 refine H.q14.view q5n rfl rfl ?_
 repeat' (simp -dsimp -implicitDefEqProofs [*])
 clear h1 h2 h3 h4 g1 G1 hlj hpl hjl
 refine q5h (fun y:Nat × σ=>[(0,.func (.yield lp) [] []),(1,.ptr bc 0),(2,.ptr bm 0),(15,Note.lst false l),(16,.int l.length),(17,.int y.1)]) (fun y=>S y.2)
  (fun y=>y.1<=l.length/\inv ((k34 j t (l.take y.1)).map Pk.pv) y.2) (fun y=>l.length-y.1) (0,s) ⟨Nat.zero_le _,hs⟩ (by simp) (.refl _) ?_
 clear hs
 rintro⟨i,s⟩ ⟨hi,hs⟩
 simp only at hi hs
 have h2:=(hok _ s hs).bm
 by_cases hin:i<l.length
 ·have hwi:=q5i (n:=i) (by omega)
  have hsub:=Note.row_sub l i hin
  have hrl:=Note.row_len l
  have hpv:=j2x j t l i hin
  have hpre:=j58 j t l (i+1)
  have hn:q5q l[i]=true:=hf _ (List.getElem_mem hin)
  have hcl:∀ s,inv ((k34 j t (l.take (i+1))).map Pk.pv) s->q55 (S s) bm=some (.arr T.apiMove (mvE x)):=fun s h=>(hok _ s h).bm
  have hrd:=hround _ _ s hs (by rw [<-hpv]; exact hpre)
  rw [<-hpv] at hrd
  have ms:=fun st=>q9v l[i] hn st
  have hmsg:=k04 hn
  have hsz:(k60 (msg l[i])).size<=140737488355328:=by rw [k1o]; omega
  have hcells:=k64 (msg l[i])
  clear hround hok hpre hpv hs hf hn
  generalize l[i]=n at *
  repeat' (first 
   | (with_reducible refine Fresh.intro fun b hb=>?_) <;> (try simp -dsimp -implicitDefEqProofs [*] at hb)
   | (simp -dsimp -implicitDefEqProofs [*]))
  refine DrawLate.by (Cls [(bm,.arr T.apiMove (mvE x))] []) (by simp [*]) ?_
  repeat' (first 
   | (with_reducible refine Rets.xcall (ms _) ?_)
   | (simp -dsimp -implicitDefEqProofs [*]))
  refine k87 (PRound.le q5o hrd) fun e st' hq=>?_
  obtain⟨rfl,s2,hs2,rfl⟩:=hq
  have hc2:=hcl s2 hs2
  clear hcl hrd
  repeat' (simp -dsimp -implicitDefEqProofs [*])
  exact Next.intro (i+1,s2) ⟨hin,hs2⟩ (by simp only; omega) (by simp) (.refl _)
 ·obtain rfl:i=l.length:=by omega
  rw [List.take_of_length_le (Nat.le_refl _)] at hs
  clear hround hok
  repeat' (simp -dsimp -implicitDefEqProofs [*])
  exact .same ⟨rfl,s,hs,rfl⟩
end Go.Proofs.YtmlmoaimjifpgaaGreat
