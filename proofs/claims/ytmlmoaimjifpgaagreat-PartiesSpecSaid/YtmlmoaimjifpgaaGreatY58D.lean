/- Loading records. -/
import Derived.Test.YtmlmoaimjifpgaaGreatP58C
import Derived.Test.YtmlmoaimjifpgaaGreatO58A
import Derived.Test.YtmlmoaimjifpgaaGreatS58A
namespace Go.Proofs.YtmlmoaimjifpgaaGreat
open Go.Pv Go.Pv.Cd
set_option maxRecDepth 100000
set_option maxHeartbeats 4000000
abbrev y48:PV:=.func (.func F.q09) [] []
theorem y25 (st:q5f):Rets P F.q4c [.val (.int .u64 0)] st (.int 0):=by
 refine H.q4c.view q5n rfl rfl ?_
 have w0:IntKind.u8.wrap 0=0:=rfl
 have w1:IntKind.i64.wrap 0=0:=rfl
 repeat' (simp -dsimp -implicitDefEqProofs [*])
 change q5s (some (0:UInt8)) _
 repeat' (simp -dsimp -implicitDefEqProofs [*])
 exact .same ⟨rfl,rfl⟩
theorem v17 (st:q5f):Rets P F.q4k [.val (.int .u64 0)] st (.int 0):=by
 refine H.q4k.view q5n rfl rfl ?_
 repeat' (first 
  | (with_reducible refine Rets.xcall (y25 _) ?_)
  | (simp -dsimp -implicitDefEqProofs [*]))
 exact .same ⟨rfl,rfl⟩
theorem j9c (st:q5f):Rets P F.q05 [.nil,.int 0,.int 0,y48] st (.tuple []):=by
 refine H.q05.view q5n rfl rfl ?_
 repeat' (simp -dsimp -implicitDefEqProofs [*])
 refine q5h (fun _:Unit=>[(8,.int 1),(0,.nil),(1,.int 0),(2,.int 0),(3,y48)]) (fun _=>st) (fun _=>True) (fun _=>0) () trivial (by simp) (.refl _) ?_
 rintro - -
 repeat' (simp -dsimp -implicitDefEqProofs [*])
 exact .same ⟨rfl,rfl⟩
theorem v18 (st:q5f):Rets P F.q0z [.nil,.int 0,.int 0,.int 0,y48] st (.tuple []):=by
 refine H.q0z.view q5n rfl rfl ?_
 repeat' (simp -dsimp -implicitDefEqProofs [*])
 refine q5h (fun _:Unit=>[(0,.nil),(1,.int 0),(2,.int 0),(4,y48)]) (fun _=>st) (fun _=>True) (fun _=>0) () trivial (by simp) (.refl _) ?_
 rintro - -
 repeat' (first 
  | (with_reducible refine Rets.xcall (j9c _) ?_)
  | (simp -dsimp -implicitDefEqProofs [*]))
 exact .same ⟨rfl,rfl⟩
theorem y8b (st:q5f):Rets P F.q0l [.nil,y48] st (.tuple []):=by
 refine H.q0l.view q5n rfl rfl ?_
 have w0:IntKind.u64.wrap 0=0:=rfl
 repeat' (first 
  | (with_reducible refine Rets.xcall (v17 _) ?_)
  | (with_reducible refine Rets.xcall (v18 _) ?_)
  | (simp -dsimp -implicitDefEqProofs [*]))
 exact .same ⟨rfl,rfl⟩
theorem j6c (S:List FN)(hS:S.length<=100000)(o:Option (Acc Note))(hl:q50 o=S.map (·.1))(st:q5f)(ho:accOk Note.row 24 st o) :
  PCalls P F.q0l [q7s o,y48] (q6e T.apiNote st o) fun e s=>∃ o',accOk Note.row 24 st o'/\((q50 o'=(k27 cfF S).map (·.1)/\q7s o'=q7s o)/\e=.ret (.tuple []))/\s=q6e T.apiNote st o':=by
 have hp:=(k2f cfF v0c S).1.length_eq
 cases o with
 | none=>
  have hS0:S=[]:=by cases S with | nil=>rfl | cons=>cases hl
  refine PCalls.mono (y8b st) fun e s ⟨h1,h2⟩=>⟨none,trivial,⟨⟨?_,rfl⟩,h1⟩,h2⟩
  have:k27 cfF S=[]:=List.eq_nil_of_length_eq_zero (by rw [hp,hS0]; rfl)
  rw [this]
  rfl
 | some a=>
  obtain⟨ha,hb⟩:=ho
  obtain⟨C,h1,h2⟩:=CompNote.acc_row ha
  have hal:a.l=S.map (·.1):=hl
  have hlen:a.l.length=S.length:=by rw [hal,List.length_map]
  have:=j22 S hS a.b a.cap C st
  simp only [q7b,q52] at *
  rw [h1,hlen,hal]
  refine PCalls.mono this fun e s ⟨k1,k2⟩=>⟨some ⟨(k27 cfF S).map (·.1),a.b,a.cap,Note.row ((k27 cfF S).map (·.1))++C⟩,⟨CompNote.ok_of (by rw [List.length_map,hp,<-hlen]; exact ha.le) ha.cap (by
   rw [List.length_append,Note.row_len,List.length_map,hp,<-hlen,<-Note.row_len,<-List.length_append,h2]),hb⟩,⟨⟨rfl, ?_⟩,k1⟩,k2⟩
  show PV.own a.b 0 ((k27 cfF S).map (·.1)).length a.cap=_
  rw [List.length_map,hp]
theorem j9d (L:List (List (BitVec 8)))(i:Nat)(h:i<L.length):(z9t L)[i]?=some (q53 false L[i]):=by simp [z9t,h]
theorem z64 (t:Bool)(L:List (List (BitVec 8)))(hn:L.length<=4096)(hL:∀ b ∈ L,b.length<=100000)(st:q5f):Rets P F.q3d [.list t (z9t L) L.length] st (.tuple [.agg [Note.lst false (z37 L)],.int (z38 L)]):=by
 have hI:¬ (4096:Int)<L.length:=by omega
 have hrl:=j59 L
 have kL:=Hid.mk hL
 clear hL
 refine H.q3d.view q5n rfl rfl ?_
 repeat' (first 
  | (with_reducible refine Fresh.intro fun b hb=>?_) <;> (try simp -dsimp -implicitDefEqProofs [*] at hb)
  | (simp -dsimp -implicitDefEqProofs [*]))
 revert b; intro pb hpb
 refine q5h (σ:=Nat × Option (Acc Note)) (fun x=>[(2,.ptr pb 0),(4,q7s x.2),(13,.list t (z9t L) L.length),(14,.int L.length),(15,.int (x.1:Nat))]) (fun x=>q6e T.apiNote ((pb,.arr T.apiPeer [.nil])::st) x.2)
  (fun x=>x.1<=L.length/\accOk Note.row 24 ((pb,.arr T.apiPeer [.nil])::st) x.2/\Hid (q50 x.2=(k4f (L.take x.1)).map (·.1))/\Hid ((L.take x.1).all (fun b=>(q8f b).isSome)=true)) (fun x=>L.length-x.1) (0,none)
  ⟨Nat.zero_le _,trivial,⟨rfl⟩,⟨rfl⟩⟩ (by simp) (.refl _) ?_
 rintro⟨i,o⟩ ⟨hi,ho,h1,h2⟩
 simp only at hi ho h1 h2
 have hw:=q5i (n:=i) (by omega)
 have gp:=z3l (T:=T.apiNote) ho
 have gs:=z3m (T:=T.apiNote) ho
 by_cases hil:i<L.length
 case pos=>
  have hg:=j9d L i hil
  have hg2:∀ h:i<(z9t L).length,(z9t L)[i]'h=q53 false L[i]:=fun h=>by
   rw [List.getElem?_eq_getElem h] at hg
   exact Option.some.inj hg
  have hlen:(q50 o).length<=i:=by
   rw [h1.out,List.length_map]
   refine Nat.le_trans (List.length_filterMap_le ..) ?_
   rw [List.length_take]
   omega
  have hbl:=kL.out _ (List.getElem_mem hil)
  have tk:L.take (i+1)=L.take i++[L[i]]:=List.take_succ_eq_append_getElem hil
  have hmem:L[i] ∈ L:=List.getElem_mem hil
  generalize hbi:L[i]=bi at *
  repeat' (simp -dsimp -implicitDefEqProofs [*])
  refine q5k (k9r bi hbl _) ?_
  rintro e s ⟨n,ok,rfl,rfl,hm⟩
  rw [q5x]
  cases hr:q8f bi with
  | none=>
   rw [hr] at hm
   simp only at hm
   subst hm
   have hB:z36 L=false:=by
    unfold z36
    rw [List.all_eq_false]
    exact⟨bi,hmem,by rw [hr]; simp⟩
   have hC:z37 L=[]:=by unfold z37; rw [hB]; rfl
   have hE:z38 L=580:=by unfold z38; rw [hB]; rfl
   rw [hC,hE]
   clear hB hC hE tk hr hbl hbi
   repeat' (first 
    | (with_reducible refine Fresh.intro fun b hb=>?_) <;> (try simp -dsimp -implicitDefEqProofs [*] at hb)
    | (simp -dsimp -implicitDefEqProofs [*]))
   obtain⟨-,hn1⟩:=accB_new hb
   have hn2:=hn1.1
   repeat' (simp -dsimp -implicitDefEqProofs [*])
   exact RetView.sees (SeesV.le (q:=.tuple [.agg [Note.lst false []],.int 580]) (PLeV.tuple2 (PLeV.aggs ⟨.nil1,trivial⟩) (.refl _))) (RetView.drop (st':=st) ((StLe.acc ho (StLe.fresh hpb)).trans (StLe.fresh hb)) ⟨rfl,rfl⟩)
  | some m=>
   rw [hr] at hm
   simp only at hm
   obtain⟨rfl,rfl⟩:=hm
   have n1:Hid ((k4f (L.take (i+1))).map (·.1)=q50 o++[n]):=⟨by
    rw [tk,h1.out]
    unfold k4f
    rw [List.filterMap_append,List.map_append]
    congr 1
    simp only [List.filterMap_cons,List.filterMap_nil,k66 hr,List.map_cons,List.map_nil]⟩
   have n2:Hid ((L.take (i+1)).all (fun b=>(q8f b).isSome)=true):=⟨by
    rw [tk,List.all_append,h2.out]
    simp [hr]⟩
   clear tk hr hbl hbi h1 h2
   repeat' (first 
    | (with_reducible refine Fresh.intro fun b hb=>?_) <;> (try simp -dsimp -implicitDefEqProofs [*] at hb)
    | (with_reducible refine Lit.imm ?_)
    | (simp -dsimp -implicitDefEqProofs [*]))
   refine xappend_box (bytes:=192) Note.row_len Note.row_append o ho hb [n] (by simp) rfl (by omega) (by omega) fun o' ho' hl'=>?_
   have kl:=Hid.mk hl'
   clear hl'
   repeat' (simp -dsimp -implicitDefEqProofs [*])
   exact Next.intro (i+1,o') ⟨by simp only; omega,ho'.unbox,⟨by rw [kl.out,n1.out]⟩,n2⟩ (by simp only; omega) (by simp) (StLe.box o' (accB_new hb).2)
 obtain rfl:i=L.length:=by omega
 rw [List.take_length] at h1 h2
 have hB:z36 L=true:=h2.out
 have hC:Hid (z37 L=z9v L):=⟨by unfold z37; rw [hB]; rfl⟩
 have hE:z38 L=0:=by unfold z38; rw [hB]; rfl
 have hnl:(k4f L).length<=4096:=Nat.le_trans (List.length_filterMap_le ..) hn
 rw [hE]
 clear hB hE h2
 repeat' (simp -dsimp -implicitDefEqProofs [*])
 refine q5k (j6c (k4f L) (by omega) o h1.out _ ho) ?_
 rintro e s ⟨o1,ho1,⟨⟨k1,k2⟩,rfl⟩,rfl⟩
 rw [q5x]
 have kk1:=Hid.mk k1
 have hl1:(q50 o1).length<=4096:=by rw [k1,List.length_map,(k2f cfF v0c (k4f L)).1.length_eq]; exact hnl
 rw [<-k2]
 clear k1 k2 h1 gp gs ho o
 repeat' (simp -dsimp -implicitDefEqProofs [*])
 refine q5k (CompNote.compact_acc o1 (by omega) _ ho1) ?_
 rintro e s ⟨o2,ho2,⟨k1,rfl⟩,rfl⟩
 rw [q5x]
 have kk2:Hid (q50 o2=z9v L):=⟨by rw [k1,kk1.out]; rfl⟩
 clear k1 kk1 hl1 ho1
 have gp:=z3l (T:=T.apiNote) ho2
 have gs:=z3m (T:=T.apiNote) ho2
 have gp2:=fun y=>z3l (T:=T.apiNote) (ho2.rebox (y:=y))
 have gs2:=fun y z=>z3m (T:=T.apiNote) (ho2.rebox (y:=y)) z
 repeat' (simp -dsimp -implicitDefEqProofs [*])
 refine RetView.accF (.tuple [.agg [Note.lst false (q50 o2)],.int 0]) (ho2.rebox) (.refl _) (fun e=>?_) (fun y e=>?_) (.drop (StLe.fresh hpb) ⟨by rw [kk2.out,hC.out],rfl⟩)
 ·subst e
  exact PLeV.tuple2 (PLeV.aggs ⟨.nil1,trivial⟩) (.refl _)
 ·subst e
  exact .tuple (.cons (.agg (.cons (Frz.acc ho2.1) .nil)) (.cons (.refl _) .nil))
open Go.Pv
set_option maxRecDepth 100000
namespace SortEvent
@[simp] theorem own_sub {l:List Event}{i:Nat}{C:List PV}(h:i<l.length):sub (Event.row l++C) (i*9) 9=some (l[i]).enc:=Go.Pv.own_sub Event.len h
@[simp] theorem own_set {l:List Event}{i:Nat}{x:Event}{C:List PV}(h:i<l.length):q5j (Event.row l++C) (i*9) x.enc=Event.row (l.set i x)++C:=Go.Pv.own_set Event.len h
abbrev cmpF:PV:=.func (.func F.q24) [] []
theorem by_spec (x y:Event)(st:q5f):Rets P F.q24 [x.pv,y.pv] st (.int (z0j x.no y.no)):=by
 refine H.q24.pure q5n rfl rfl ?_
 repeat' (first 
  | (with_reducible refine Fresh.intro fun b hb=>?_) <;> (try simp -dsimp -implicitDefEqProofs [*] at hb)
  | (with_reducible refine Rets.xcall (k8b _ _ _) ?_)
  | (simp -dsimp -implicitDefEqProofs [*]))
abbrev rowO (l:List Event)(C:List PV):PObj:=.arr T.apiEvent (Event.row l++C)
def exch (l:List Event)(i j:Nat)(hi:i<l.length)(hj:j<l.length):List Event:=(l.set i l[j]).set j l[i]
theorem swap2 {l P Q R:List Event}{x y:Event}{i j:Nat}(hl:l=P++x::(Q++y::R))(hi:P.length=i)(hj:i+1+Q.length=j) :
  (∀ h:i<l.length,l[i]=x)/\(∀ h:j<l.length,l[j]=y)/\(l.set i y).set j x=P++y::(Q++x::R)/\(l.set j x).set i y=P++y::(Q++x::R)/\i<l.length/\j<l.length:=by
 subst hl; subst hi; subst hj
 have e2:P.length+1+Q.length-P.length=Q.length+1:=by omega
 have e3:¬ P.length+1+Q.length<P.length:=by omega
 refine⟨fun h=>by simp,fun h=>?_, ?_, ?_,by simp,by simp; omega⟩
 ·rw [List.getElem_append_right (by omega)]
  simp [e2]
 ·simp [List.set_append,e2,e3]
 ·simp [List.set_append,e2,e3]
theorem cut_at {A:List Event}{i:Nat}(h:i<A.length):∃ a,A.drop i=a::A.drop (i+1)/\A.take (i+1)=A.take i++[a]:=⟨A[i],List.drop_eq_getElem_cons h,List.take_succ_eq_append_getElem h⟩
theorem cut_len {A:List Event}{k:Nat}(h:k<=A.length):∃ U V,A=U++V/\U.length=k/\V.length=A.length-k:=⟨A.take k,A.drop k,(List.take_append_drop k A).symm,by simp [h],by simp⟩
abbrev key (e:Event):Int:=e.no
@[simp] theorem cmpI_lt (a b:Int):z0j a b<0 ↔ a<b:=by unfold z0j; split <;> (try split) <;> omega
@[simp] theorem cmpI_ge (a b:Int):0<=z0j a b ↔ b<=a:=by unfold z0j; split <;> (try split) <;> omega
theorem at_mid {l P R:List Event}{z:Event}{i:Nat}(hl:l=P++z::R)(hi:P.length=i):i<l.length/\∀ h:i<l.length,l[i]=z:=by
 subst hl; subst hi
 exact⟨by simp,fun h=>by simp⟩
def InsI (X U R:List Event)(x:Event)(N a j:Nat)(l:List Event):Prop:=l.length=N/\∃ P Q,U=P++Q/\l=X++P++x::(Q++R)/\a+P.length=j/\∀ q ∈ Q,key x<key q
theorem ins_step {X U R:List Event}{x:Event}{N a j:Nat}{l:List Event}(h:InsI X U R x N a j l)(hX:X.length=a)(hU:Srtd key U)(hj:a<j):∃ v l3,(∀ h:j<l.length,l[j]=x)/\(∀ h:j-1<l.length,l[j-1]=v)/\(l.set j v).set (j-1) x=l3/\l3.length=N/\j<N ∧
  (key x<key v->InsI X U R x N a (j-1) l3)/\(key v<=key x->l=X++srt key (U++[x])++R):=by
 obtain⟨hN,P,Q,h1,h2,h3,h4⟩:=h
 rcases List.eq_nil_or_concat P with rfl |⟨P',v,rfl⟩
 ·simp at h3; omega
 rw [List.concat_eq_append] at *
 simp at h3
 obtain⟨e1,e2,e3,e4,e5,e6⟩:=swap2 (l:=l) (P:=X++P') (x:=v) (Q:=[]) (y:=x) (R:=Q++R) (i:=j-1) (j:=j) (by rw [h2]; simp) (by simp; omega) (by simp; omega)
 have hlen:((l.set j v).set (j-1) x).length=N:=by simp [hN]
 refine⟨v,_,e2,e1,rfl,hlen,by omega,fun hv=>⟨hlen,P',v::Q,by rw [h1]; simp,by rw [e4]; simp,by omega,fun q hq=>?_⟩,fun hv=>?_⟩
 ·rcases List.mem_cons.1 hq with rfl | hq
  ·exact hv
  ·exact h4 q hq
 ·rw [h2,h1,<-k3r (h1 ▸ hU) (fun p hp=>?_) h4]
  ·simp
  ·rcases List.mem_append.1 hp with hp | hp
   ·have:=(h1 ▸ hU:Srtd key (P'++[v]++Q)).left.le hp (b:=v) (by simp)
    omega
   ·simp at hp; subst hp; exact hv
theorem ins_end {X U R:List Event}{x:Event}{N a:Nat}{l:List Event}(h:InsI X U R x N a a l)(hU:Srtd key U):l=X++srt key (U++[x])++R:=by
 obtain⟨hN,P,Q,h1,h2,h3,h4⟩:=h
 have:P=[]:=List.length_eq_zero_iff.1 (by omega)
 subst this
 rw [h2,h1,<-k3r (h1 ▸ hU) (by simp) h4]
 simp
theorem srt_more {T:List Event}{x:Event}:srt key (srt key T++[x])=srt key (T++[x]):=z5n (Stb.app (q8m T).symm (.refl _))
theorem insertion_spec {l l2 X L Y:List Event}{C:List PV}{b cap N a z:Nat}(hN:l.length=N)(hN2:N<=100000)(hl:l=X++L++Y)(hl2:l2=X++srt key L++Y)(hX:X.length=a)(hz:a+L.length=z)(st:q5f) :
  Does P F.q0k [.own b 0 N cap,.int (a:Nat),.int (z:Nat),cmpF] ((b,rowO l C)::st) (.tuple []) ((b,rowO l2 C)::st):=by
 have hzN:z<=N:=by
  have:=congrArg List.length hl
  simp at this
  omega
 have h0:Hid (l=X++srt key (L.take (a+1-a))++(L.drop (a+1-a)++Y)):=by
  constructor
  rw [hl,show a+1-a=1 by omega]
  rcases L with _ |⟨x,L⟩
  ·simp [srt]
  ·simp [srt,k4c]
 have h2:Hid (l2=X++srt key L++Y):=⟨hl2⟩
 obtain⟨a1,ha1⟩:∃ a1,a1=a+1:=⟨_,rfl⟩
 have hwa:IntKind.i64.wrap ((a:Int)+1)=(a1:Int):=by rw [ha1,q5i (by omega)]; omega
 rw [<-ha1] at h0
 have haz:a1=a+1:=ha1
 clear hl hl2 ha1
 refine H.q0k.view q5n rfl rfl ?_
 clear haz
 repeat' (simp -dsimp -implicitDefEqProofs [*])
 have haz:a1=a+1:=by have:=q5i (n:=a) (by omega); omega
 refine q5h (fun s:Nat × List Event=>[(0,.own b 0 N cap),(1,.int (a:Nat)),(2,.int (z:Nat)),(3,cmpF),(8,.int (s.1:Nat))]) (fun s=>(b,rowO s.2 C)::st)
  (fun s=>a1<=s.1/\(s.1<=z\/s.1=a1)/\s.2.length=N/\s.2=X++srt key (L.take (s.1-a))++(L.drop (s.1-a)++Y)) (fun s=>z-s.1) (a1,l) ⟨Nat.le_refl _,.inr rfl,hN,h0.out⟩ (by simp) (by simp) ?_
 clear h0 hwa
 rintro⟨i,l'⟩ ⟨hi1,hi2,hlen',hl'⟩
 simp only at hi1 hi2 hlen' hl'
 by_cases hiz:i<z
 ·obtain⟨x,c1,c2⟩:=cut_at (A:=L) (i:=i-a) (by omega)
  obtain⟨i2,hi3⟩:∃ i2,i2=i+1:=⟨_,rfl⟩
  have hwi:IntKind.i64.wrap ((i:Int)+1)=(i2:Int):=by rw [hi3,q5i (by omega)]; omega
  have hi4:i-a+1=i2-a:=by omega
  rw [hi4] at c1 c2
  have hU:=q7d (key:=key) (L.take (i-a))
  have hlU:(srt key (L.take (i-a))).length=i-a:=by simp; omega
  have hI:InsI X (srt key (L.take (i-a))) (L.drop (i2-a)++Y) x N a i l':=⟨hlen',srt key (L.take (i-a)),[],by simp,by rw [hl',c1]; simp,by omega,by simp⟩
  have hfin:∀ l3:List Event,l3=X++srt key (srt key (L.take (i-a))++[x])++(L.drop (i2-a)++Y)->l3=X++srt key (L.take (i2-a))++(L.drop (i2-a)++Y):=fun l3 h=>by rw [h,srt_more,c2]
  generalize srt key (L.take (i-a))=U at hI hfin hU
  have hii:i<i2/\i2<=z/\a1<=i2/\a<i:=by omega
  clear hl' c1 c2 hi3 hi4 hlU hlen' haz hi2
  repeat' (simp -dsimp -implicitDefEqProofs [*])
  refine q5h (fun s:Nat × List Event=>[(0,.own b 0 N cap),(1,.int (a:Nat)),(2,.int (z:Nat)),(3,cmpF),(8,.int (i:Nat)),(9,.int (s.1:Nat))]) (fun s=>(b,rowO s.2 C)::st)
   (fun s=>a<=s.1/\InsI X U (L.drop (i2-a)++Y) x N a s.1 s.2) (fun s=>s.1) (i,l') ⟨by simp only; omega,hI⟩ (by simp) (by simp) ?_
  rintro⟨j,l''⟩ ⟨hj1,hJ⟩
  simp only at hj1 hJ
  have hlen2:=hJ.1
  by_cases hj:a<j
  ·obtain⟨v,l3,s1,s2,s3,s4,s5,s6,s7⟩:=ins_step hJ hX hU hj
   obtain⟨q,hq⟩:∃ q,q=j-1:=⟨_,rfl⟩
   have hwq:IntKind.i64.wrap ((j:Int)-1)=(q:Int):=by rw [q5l (by omega) (by omega)]; omega
   rw [<-hq] at s2 s3 s6
   have hqj:q<j/\a<=q/\q<N:=by omega
   clear hq hX hI hJ hz
   by_cases hxv:x.no<v.no
   ·replace s6:=s6 hxv
    clear s7 hfin
    repeat' (simp -dsimp -implicitDefEqProofs [*])
    refine DrawLate.intro [] ?_
    repeat' (first 
     | (with_reducible refine Rets.xcall (by_spec _ _ _) ?_)
     | (simp -dsimp -implicitDefEqProofs [*]))
    refine DrawLate.intro [b] ?_
    repeat' (first 
     | ((with_reducible refine q5v ?_ fun hk=>?_); omega)
     | (simp -dsimp -implicitDefEqProofs [*]))
    exact Next.intro (q,l3) ⟨hqj.2.1,s6⟩ (by simp only; omega) (by simp) q5o
   ·have s8:Hid (l''=X++srt key (L.take (i2-a))++(L.drop (i2-a)++Y)):=⟨hfin l'' (s7 (Int.not_lt.1 hxv))⟩
    clear s6 s7 s3 hfin
    repeat' (first 
     | (with_reducible refine Rets.xcall (by_spec _ _ _) ?_)
     | (with_reducible refine DrawLate.intro [] ?_)
     | (simp -dsimp -implicitDefEqProofs [*]))
    exact Next.intro (i2,l'') ⟨hii.2.2.1,.inl hii.2.1,hlen2,s8.out⟩ (by simp only; omega) (by simp) q5o
  ·have hja:j=a:=by omega
   subst hja
   have s8:Hid (l''=X++srt key (L.take (i2-j))++(L.drop (i2-j)++Y)):=⟨hfin l'' (ins_end hJ hU)⟩
   clear hfin hI hJ
   repeat' (first 
    | (with_reducible refine DrawLate.intro [] ?_)
    | (simp -dsimp -implicitDefEqProofs [*]))
   exact Next.intro (i2,l'') ⟨hii.2.2.1,.inl hii.2.1,hlen2,s8.out⟩ (by simp only; omega) (by simp) q5o
 ·have e:l'=l2:=by rw [hl',h2.out,List.take_of_length_le (by omega),List.drop_of_length_le (by omega)]; simp
  clear hl' hX hz h2
  subst e
  repeat' (simp -dsimp -implicitDefEqProofs [*])
  exact .drop (StLe.refl _) ⟨rfl,rfl⟩
end SortEvent
open Go.Pv
set_option maxRecDepth 100000
namespace SortEvent
theorem swapRange_spec {l l2 X A M B Y:List Event}{C:List PV}{b cap N x y n:Nat}(hN:l.length=N)(hN2:N<=100000)(hl:l=X++A++M++B++Y)(hl2:l2=X++B++M++A++Y)
  (hX:X.length=x) (hA:A.length=n) (hB:B.length=n) (hM:x+n+M.length=y) (st:q5f) :
  Does P F.q0u [.own b 0 N cap,.int (x:Nat),.int (y:Nat),.int (n:Nat),cmpF] ((b,rowO l C)::st) (.tuple []) ((b,rowO l2 C)::st):=by
 have hlen:x+n+M.length+n+Y.length=N:=by rw [<-hN,hl]; simp; omega
 have h0:Hid (l=X++(B.take 0++A.drop 0)++M++(A.take 0++B.drop 0)++Y):=⟨by simp [hl]⟩
 clear hl
 refine H.q0u.view q5n rfl rfl ?_
 repeat' (simp -dsimp -implicitDefEqProofs [*])
 refine q5h (fun s:Nat × List Event=>[(0,.own b 0 N cap),(1,.int (x:Nat)),(2,.int (y:Nat)),(3,.int (n:Nat)),(10,.int (s.1:Nat))]) (fun s=>(b,rowO s.2 C)::st)
  (fun s=>s.1<=n/\s.2.length=N/\s.2=X++(B.take s.1++A.drop s.1)++M++(A.take s.1++B.drop s.1)++Y) (fun s=>n-s.1) (0,l) ?_ ?_ ?_ ?_
 ·exact⟨Nat.zero_le _,hN,h0.out⟩
 ·simp
 ·simp
 rintro⟨i,l'⟩ ⟨hi,hlen',hl'⟩
 simp only at hi hlen' hl'
 have hw:=q5i (n:=i) (by omega)
 by_cases hin:i<n
 ·obtain⟨p,hp⟩:∃ p,p=x+i:=⟨_,rfl⟩
  obtain⟨q,hq⟩:∃ q,q=y+i:=⟨_,rfl⟩
  have hwp:IntKind.i64.wrap ((x:Int)+i)=(p:Int):=by rw [hp]; exact q5l (by omega) (by omega)
  have hwq:IntKind.i64.wrap ((y:Int)+i)=(q:Int):=by rw [hq]; exact q5l (by omega) (by omega)
  obtain⟨u,hAi,hAt⟩:=cut_at (A:=A) (i:=i) (by omega)
  obtain⟨v,hBi,hBt⟩:=cut_at (A:=B) (i:=i) (by omega)
  have hs:=swap2 (l:=l') (P:=X++B.take i) (x:=u) (Q:=A.drop (i+1)++M++A.take i) (y:=v) (R:=B.drop (i+1)++Y) (i:=p) (j:=q) (by rw [hl',hAi,hBi]; simp) (by simp; omega) (by simp; omega)
  obtain⟨h1,h2,h3,h4,h5,h6⟩:=hs
  have hfin:Hid ((l'.set p v).set q u=X++(B.take (i+1)++A.drop (i+1))++M++(A.take (i+1)++B.drop (i+1))++Y):=⟨by rw [h3,hAt,hBt]; simp⟩
  clear hl2 hl' hAi hBi hAt hBt h3 h4 h0 hp hq
  generalize hl3:(l'.set p v).set q u=l3 at *
  have hlen3:l3.length=N:=by rw [<-hl3]; simp [hlen']
  repeat' (simp -dsimp -implicitDefEqProofs [*])
  refine DrawLate.intro [b] ?_
  repeat' (first 
   | ((with_reducible refine q5v ?_ fun hk=>?_); omega)
   | (simp -dsimp -implicitDefEqProofs [*]))
  exact Next.intro (i+1,l3) ⟨by simp only; omega,hlen3,hfin.out⟩ (by simp only; omega) (by simp) q5o
 ·have:i=n:=by omega
  subst this
  have e:l'=l2:=by rw [hl',hl2,List.take_of_length_le (by omega),List.take_of_length_le (by omega),List.drop_of_length_le (by omega),List.drop_of_length_le (by omega)]; simp
  clear hl2 hl' h0
  subst e
  repeat' (simp -dsimp -implicitDefEqProofs [*])
  exact .drop (StLe.refl _) ⟨rfl,rfl⟩
def RotI (l2 l':List Event)(N m i j:Nat):Prop:=l'.length=N/\∃ P U V Q,l'=P++U++V++Q/\l2=P++V++U++Q/\U.length=i/\V.length=j/\P.length+i=m
theorem rot_gt {l2 l':List Event}{N m i j:Nat}(h:RotI l2 l' N m i j)(hij:j<i):∃ X A M B Y l3,l'=X++A++M++B++Y/\l3=X++B++M++A++Y/\X.length=m-i/\A.length=j/\B.length=j/\m-i+j+M.length=m/\l3.length=N/\RotI l2 l3 N m (i-j) j:=by
 obtain⟨hN,P,U,V,Q,h1,h2,h3,h4,h5⟩:=h
 obtain⟨U1,U2,hU,hU1,hU2⟩:=cut_len (A:=U) (k:=j) (by omega)
 have hlen:(P++V++U2++U1++Q).length=N:=by rw [<-hN,h1,hU]; simp; omega
 refine⟨P,U1,U2,V,Q,_,by rw [h1,hU]; simp,rfl,by omega,hU1,h4,by omega,hlen,hlen,P++V,U2,U1,Q,rfl,by rw [h2,hU]; simp,by omega,hU1,by simp; omega⟩
theorem rot_lt {l2 l':List Event}{N m i j:Nat}(h:RotI l2 l' N m i j)(hij:i<j):∃ X A M B Y l3,l'=X++A++M++B++Y/\l3=X++B++M++A++Y/\X.length=m-i/\A.length=i/\B.length=i/\m-i+i+M.length=m+j-i/\l3.length=N/\RotI l2 l3 N m i (j-i):=by
 obtain⟨hN,P,U,V,Q,h1,h2,h3,h4,h5⟩:=h
 obtain⟨V1,V2,hV,hV1,hV2⟩:=cut_len (A:=V) (k:=j-i) (by omega)
 have hlen:(P++V2++V1++U++Q).length=N:=by rw [<-hN,h1,hV]; simp; omega
 refine⟨P,U,V1,V2,Q,_,by rw [h1,hV]; simp,rfl,by omega,h3,by omega,by omega,hlen,hlen,P,V2,V1,U++Q,by simp,by rw [h2,hV]; simp,by omega,hV1,by omega⟩
theorem rot_eq {l2 l':List Event}{N m i:Nat}(h:RotI l2 l' N m i i):∃ X A M B Y,l'=X++A++M++B++Y/\l2=X++B++M++A++Y/\X.length=m-i/\A.length=i/\B.length=i/\m-i+i+M.length=m:=by
 obtain⟨hN,P,U,V,Q,h1,h2,h3,h4,h5⟩:=h
 exact⟨P,U,[],V,Q,by rw [h1]; simp,by rw [h2]; simp,by omega,h3,h4,by simp; omega⟩
theorem rot_le {l2 l':List Event}{N m i j:Nat}(h:RotI l2 l' N m i j):i<=m/\m+j<=N:=by
 obtain⟨hN,P,U,V,Q,h1,h2,h3,h4,h5⟩:=h
 have:=congrArg List.length h1
 simp at this
 omega
theorem rotate_spec {l l2 X A B Y:List Event}{C:List PV}{b cap N x m y:Nat}(hN:l.length=N)(hN2:N<=100000)(hl:l=X++A++B++Y)(hl2:l2=X++B++A++Y)
  (hX:X.length=x) (hA:x+A.length=m) (hB:m+B.length=y) (hA0:0<A.length) (hB0:0<B.length) (st:q5f) :
  Does P F.q1a [.own b 0 N cap,.int (x:Nat),.int (m:Nat),.int (y:Nat),cmpF] ((b,rowO l C)::st) (.tuple []) ((b,rowO l2 C)::st):=by
 have h0:RotI l2 l N m A.length B.length:=⟨hN,X,A,B,Y,hl,hl2,rfl,rfl,by omega⟩
 have hle:=rot_le h0
 have hw1:IntKind.i64.wrap ((m:Int)-x)=(A.length:Int):=by rw [q5l (by omega) (by omega)]; omega
 have hw2:IntKind.i64.wrap ((y:Int)-m)=(B.length:Int):=by rw [q5l (by omega) (by omega)]; omega
 generalize A.length=i0 at *
 generalize B.length=j0 at *
 clear hl hl2
 refine H.q1a.view q5n rfl rfl ?_
 repeat' (simp -dsimp -implicitDefEqProofs [*])
 refine q5h (fun s:(Nat × Nat) × List Event=>[(0,.own b 0 N cap),(2,.int (m:Nat)),(4,cmpF),(10,.int (s.1.1:Nat)),(11,.int (s.1.2:Nat))]) (fun s=>(b,rowO s.2 C)::st)
  (fun s=>0<s.1.1/\0<s.1.2/\RotI l2 s.2 N m s.1.1 s.1.2) (fun s=>s.1.1+s.1.2) ((i0,j0),l) ?_ ?_ ?_ ?_
 ·exact⟨hA0,hB0,h0⟩
 ·simp
 ·simp
 rintro⟨⟨i,j⟩,l'⟩ ⟨hi,hj,hI⟩
 simp only at hi hj hI
 have hle':=rot_le hI
 have hlen':=hI.1
 clear h0 hle hw1 hw2 hN hA hB hA0 hB0
 obtain⟨p,hp⟩:∃ p,p=m-i:=⟨_,rfl⟩
 have hwp:IntKind.i64.wrap ((m:Int)-i)=(p:Int):=by rw [q5l (by omega) (by omega)]; omega
 rcases Nat.lt_trichotomy i j with hij | hij | hij
 ·obtain⟨X',A',M',B',Y',l3,e1,e2,e3,e4,e5,e6,e7,e8⟩:=rot_lt hI hij
  obtain⟨q,hq⟩:∃ q,q=m+j-i:=⟨_,rfl⟩
  obtain⟨k,hk⟩:∃ k,k=j-i:=⟨_,rfl⟩
  obtain⟨r,hr⟩:∃ r,r=m+j:=⟨_,rfl⟩
  have hwr:IntKind.i64.wrap ((m:Int)+j)=(r:Int):=by rw [q5l (by omega) (by omega)]; omega
  have hwq:IntKind.i64.wrap ((r:Int)-i)=(q:Int):=by rw [q5l (by omega) (by omega)]; omega
  have hwk:IntKind.i64.wrap ((j:Int)-i)=(k:Int):=by rw [q5l (by omega) (by omega)]; omega
  rw [<-hp] at e3 e6
  rw [<-hq] at e6
  rw [<-hk] at e8
  have hs:=swapRange_spec (C:=C) (b:=b) (cap:=cap) hlen' hN2 e1 e2 e3 e4 e5 e6
  have hne:¬ i=j/\¬ j=i:=by omega
  have hk0:0<k/\k<j:=by omega
  clear e1 e2 e3 e4 e5 e6 hp hq hr hk hX
  repeat' (first 
   | (with_reducible refine Does.xcall (hs st) ?_)
   | (with_reducible refine And.intro (fun h=>?_) (fun h=>?_)) <;> (try (exfalso; omega))
   | (simp -dsimp -implicitDefEqProofs [*]))
  exact Next.intro ((i,k),l3) ⟨hi,hk0.1,e8⟩ (by simp only; omega) (by simp) q5o
 ·subst hij
  obtain⟨X',A',M',B',Y',e1,e2,e3,e4,e5,e6⟩:=rot_eq hI
  rw [<-hp] at e3 e6
  have hs:=swapRange_spec (C:=C) (b:=b) (cap:=cap) hlen' hN2 e1 e2 e3 e4 e5 e6
  clear e1 e2 e3 e4 e5 e6 hp hX
  repeat' (first 
   | (with_reducible refine Does.xcall (hs st) ?_)
   | (simp -dsimp -implicitDefEqProofs [*]))
  exact .drop (StLe.refl _) ⟨rfl,rfl⟩
 ·obtain⟨X',A',M',B',Y',l3,e1,e2,e3,e4,e5,e6,e7,e8⟩:=rot_gt hI hij
  obtain⟨k,hk⟩:∃ k,k=i-j:=⟨_,rfl⟩
  have hwk:IntKind.i64.wrap ((i:Int)-j)=(k:Int):=by rw [q5l (by omega) (by omega)]; omega
  rw [<-hp] at e3 e6
  rw [<-hk] at e8
  have hs:=swapRange_spec (C:=C) (b:=b) (cap:=cap) hlen' hN2 e1 e2 e3 e4 e5 e6
  have hne:¬ i=j/\¬ j=i:=by omega
  have hk0:0<k/\k<i:=by omega
  clear e1 e2 e3 e4 e5 e6 hp hk hX
  repeat' (first 
   | (with_reducible refine Does.xcall (hs st) ?_)
   | (with_reducible refine And.intro (fun h=>?_) (fun h=>?_)) <;> (try (exfalso; omega))
   | (simp -dsimp -implicitDefEqProofs [*]))
  exact Next.intro ((k,j),l3) ⟨hk0.1,hj,e8⟩ (by simp only; omega) (by simp) q5o
def RotD (l l2:List Event)(x m y:Nat):Prop:=∃ X A B Y,l=X++A++B++Y/\l2=X++B++A++Y/\X.length=x/\x+A.length=m/\m+B.length=y/\0<A.length/\0<B.length
def MrgD (l l2:List Event)(x m y:Nat):Prop:=∃ X A B Y,l=X++A++B++Y/\l2=X++srt key (A++B)++Y/\X.length=x/\x+A.length=m/\m+B.length=y/\0<A.length/\0<B.length/\Srtd key A/\Srtd key B
theorem rotD_spec {l l2:List Event}{C:List PV}{b cap N x m y:Nat}(hN:l.length=N)(hN2:N<=100000)(h:RotD l l2 x m y)(st:q5f) :
  Does P F.q1a [.own b 0 N cap,.int (x:Nat),.int (m:Nat),.int (y:Nat),cmpF] ((b,rowO l C)::st) (.tuple []) ((b,rowO l2 C)::st):=by
 obtain⟨X,A,B,Y,h1,h2,h3,h4,h5,h6,h7⟩:=h
 exact rotate_spec hN hN2 h1 h2 h3 h4 h5 h6 h7 st
theorem MrgD.le {l l2:List Event}{x m y N:Nat}(h:MrgD l l2 x m y)(hN:l.length=N):x<m/\m<y/\y<=N/\l2.length=N:=by
 obtain⟨X,A,B,Y,h1,h2,h3,h4,h5,h6,h7, -⟩:=h
 have e1:=congrArg List.length h1
 have e2:=congrArg List.length h2
 simp at e1 e2
 omega
def Src (f g:Event->Prop)(B:List Event)(m i j:Nat):Prop:=∃ B1 Bm B2,B=B1++Bm++B2/\m+B1.length=i/\i+Bm.length=j/\(∀ q ∈ B1,f q)/\(∀ q ∈ B2,g q)
theorem Src.le {f g:Event->Prop}{B:List Event}{m i j:Nat}(h:Src f g B m i j):m<=i/\i<=j/\j<=m+B.length:=by
 obtain⟨B1,Bm,B2,h1,h2,h3, -⟩:=h
 have:=congrArg List.length h1
 simp at this
 omega
theorem Src.step {f g:Event->Prop}{X B Y l:List Event}{m i j h:Nat}(hl:l=X++B++Y)(hX:X.length=m)(hB:Srtd key B)(hf:∀ a b:Event,key a<=key b->f b->f a)(hg:∀ a b:Event,key a<=key b->g a->g b)(hs:Src f g B m i j)(h1:i<=h)(h2:h<j) :
  ∃ z,h<l.length/\(∀ h':h<l.length,l[h]=z)/\(f z->Src f g B m (h+1) j)/\(g z->Src f g B m i h):=by
 obtain⟨B1,Bm,B2,e1,e2,e3,e4,e5⟩:=hs
 obtain⟨C1,C2,hC,hC1,hC2⟩:=cut_len (A:=Bm) (k:=h-i) (by omega)
 rcases C2 with _ |⟨z,C2⟩
 ·simp at hC2; omega
 have hB':Srtd key (B1++(C1++z::C2)++B2):=by rw [<-hC,<-e1]; exact hB
 have hm:=hB'.left.right
 have hlen:=congrArg List.length hC
 simp at hlen
 obtain⟨a1,a2⟩:=at_mid (l:=l) (P:=X++B1++C1) (z:=z) (R:=C2++B2++Y) (i:=h) (by rw [hl,e1,hC]; simp) (by simp; omega)
 refine⟨z,a1,a2,fun hz=>⟨B1++C1++[z],C2,B2,by rw [e1,hC]; simp,by simp; omega,by omega,fun q hq=>?_,e5⟩,fun hz=>⟨B1,C1,z::C2++B2,by rw [e1,hC]; simp,e2,by omega,e4,fun q hq=>?_⟩⟩
 ·rcases List.mem_append.1 hq with hq | hq
  ·rcases List.mem_append.1 hq with hq | hq
   ·exact e4 q hq
   ·exact hf q z (hm.le hq (by simp)) hz
  ·simp at hq; subst hq; exact hz
 ·rcases List.mem_append.1 hq with hq | hq
  ·rcases List.mem_cons.1 hq with rfl | hq
   ·exact hz
   ·exact hg z q ((List.pairwise_cons.1 hm.right).1 q hq) hz
  ·exact e5 q hq
theorem Src.init {f g:Event->Prop}{B:List Event}{m y:Nat}(h:m+B.length=y):Src f g B m m y:=⟨[],B,[],by simp,by simp,h,by simp,by simp⟩
theorem Src.fin {f g:Event->Prop}{B:List Event}{m i j:Nat}(h:Src f g B m i j)(hij:j<=i):∃ B1 B2,B=B1++B2/\m+B1.length=i/\(∀ q ∈ B1,f q)/\(∀ q ∈ B2,g q):=by
 obtain⟨B1,Bm,B2,e1,e2,e3,e4,e5⟩:=h
 have:Bm=[]:=List.length_eq_zero_iff.1 (by omega)
 subst this
 exact⟨B1,B2,by simpa using e1,e2,e4,e5⟩
end SortEvent
end Go.Proofs.YtmlmoaimjifpgaaGreat
