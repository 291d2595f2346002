/- Loading records. -/
import Derived.Test.YtmlmoaimjifpgaaGreatP58C
import Derived.Test.YtmlmoaimjifpgaaGreatR58B
import Derived.Test.YtmlmoaimjifpgaaGreatS58A
namespace Go.Proofs.YtmlmoaimjifpgaaGreat
open Go.Pv Go.Pv.Cd
set_option maxRecDepth 100000
set_option maxHeartbeats 4000000
abbrev y48:PV:=.func (.func F.q09) [] []
theorem y2x (st:q5c):Rets P F.q39 [.val (.int .u64 0)] st (.int 0):=by
 refine H.q39.view q5l rfl rfl ?_
 have w0:IntKind.u8.wrap 0=0:=rfl
 have w1:IntKind.i64.wrap 0=0:=rfl
 repeat' (simp -dsimp -implicitDefEqProofs [*])
 change q5n (some (0:UInt8)) _
 repeat' (simp -dsimp -implicitDefEqProofs [*])
 exact .same ⟨rfl,rfl⟩
theorem v17 (st:q5c):Rets P F.q4g [.val (.int .u64 0)] st (.int 0):=by
 refine H.q4g.view q5l rfl rfl ?_
 repeat' (first 
  | (with_reducible refine Rets.xcall (y2x _) ?_)
  | (simp -dsimp -implicitDefEqProofs [*]))
 exact .same ⟨rfl,rfl⟩
theorem j89 (st:q5c):Rets P F.q05 [.nil,.int 0,.int 0,y48] st (.tuple []):=by
 refine H.q05.view q5l rfl rfl ?_
 repeat' (simp -dsimp -implicitDefEqProofs [*])
 refine q5e (fun _:Unit=>[(8,.int 1),(0,.nil),(1,.int 0),(2,.int 0),(3,y48)]) (fun _=>st) (fun _=>True) (fun _=>0) () trivial (by simp) (.refl _) ?_
 rintro - -
 repeat' (simp -dsimp -implicitDefEqProofs [*])
 exact .same ⟨rfl,rfl⟩
theorem v18 (st:q5c):Rets P F.q0y [.nil,.int 0,.int 0,.int 0,y48] st (.tuple []):=by
 refine H.q0y.view q5l rfl rfl ?_
 repeat' (simp -dsimp -implicitDefEqProofs [*])
 refine q5e (fun _:Unit=>[(0,.nil),(1,.int 0),(2,.int 0),(4,y48)]) (fun _=>st) (fun _=>True) (fun _=>0) () trivial (by simp) (.refl _) ?_
 rintro - -
 repeat' (first 
  | (with_reducible refine Rets.xcall (j89 _) ?_)
  | (simp -dsimp -implicitDefEqProofs [*]))
 exact .same ⟨rfl,rfl⟩
theorem y8d (st:q5c):Rets P F.q0k [.nil,y48] st (.tuple []):=by
 refine H.q0k.view q5l rfl rfl ?_
 have w0:IntKind.u64.wrap 0=0:=rfl
 repeat' (first 
  | (with_reducible refine Rets.xcall (v17 _) ?_)
  | (with_reducible refine Rets.xcall (v18 _) ?_)
  | (simp -dsimp -implicitDefEqProofs [*]))
 exact .same ⟨rfl,rfl⟩
theorem j6e (S:List FN)(hS:S.length<=100000)(o:Option (Acc Note))(hl:q5u o=S.map (·.1))(st:q5c)(ho:accOk Note.row 24 st o) :
  PCalls P F.q0k [q7n o,y48] (q6c T.apiNote st o) fun e s=>∃ o',accOk Note.row 24 st o'/\((q5u o'=(k2i cfF S).map (·.1)/\q7n o'=q7n o)/\e=.ret (.tuple []))/\s=q6c T.apiNote st o':=by
 have hp:=(k0c cfF y8b S).1.length_eq
 cases o with
 | none=>
  have hS0:S=[]:=by cases S with | nil=>rfl | cons=>cases hl
  refine PCalls.mono (y8d st) fun e s ⟨h1,h2⟩=>⟨none,trivial,⟨⟨?_,rfl⟩,h1⟩,h2⟩
  have:k2i cfF S=[]:=List.eq_nil_of_length_eq_zero (by rw [hp,hS0]; rfl)
  rw [this]
  rfl
 | some a=>
  obtain⟨ha,hb⟩:=ho
  obtain⟨C,h1,h2⟩:=CompNote.acc_row ha
  have hal:a.l=S.map (·.1):=hl
  have hlen:a.l.length=S.length:=by rw [hal,List.length_map]
  have:=j3a S hS a.b a.cap C st
  simp only [q65,q5y] at *
  rw [h1,hlen,hal]
  refine PCalls.mono this fun e s ⟨k1,k2⟩=>⟨some ⟨(k2i cfF S).map (·.1),a.b,a.cap,Note.row ((k2i cfF S).map (·.1))++C⟩,⟨CompNote.ok_of (by rw [List.length_map,hp,<-hlen]; exact ha.le) ha.cap (by
   rw [List.length_append,Note.row_len,List.length_map,hp,<-hlen,<-Note.row_len,<-List.length_append,h2]),hb⟩,⟨⟨rfl, ?_⟩,k1⟩,k2⟩
  show PV.own a.b 0 ((k2i cfF S).map (·.1)).length a.cap=_
  rw [List.length_map,hp]
theorem j6f (t:Bool)(L:List (List (BitVec 8)))(h:4096<L.length)(st:q5c):Rets P F.q15 [.list t (k1z L) L.length] st (.tuple [.agg [Note.lst false []],.int 2]):=by
 have hI:(4096:Int)<L.length:=by omega
 refine H.q15.view q5l rfl rfl ?_
 repeat' (first 
  | (with_reducible refine Fresh.intro fun b hb=>?_) <;> (try simp -dsimp -implicitDefEqProofs [*] at hb)
  | (simp -dsimp -implicitDefEqProofs [*]))
 exact RetView.sees (SeesV.le (q:=.tuple [.agg [Note.lst false []],.int 2]) (PLeV.tuple2 (PLeV.aggs ⟨.nil1,trivial⟩) (.refl _))) (RetView.drop (st':=st) q5m ⟨rfl,rfl⟩)
theorem k8d (L:List (List (BitVec 8)))(i:Nat)(h:i<L.length):(k1z L)[i]?=some (q54 false L[i]):=by simp [k1z,h]
theorem k9x (t:Bool)(L:List (List (BitVec 8)))(hn:L.length<=4096)(hL:∀ b ∈ L,b.length<=100000)(st:q5c):Rets P F.q15 [.list t (k1z L) L.length] st (.tuple [.agg [Note.lst false (k28 L)],.int (k4v L)]):=by
 have hI:¬ (4096:Int)<L.length:=by omega
 have hrl:=k50 L
 have kL:=Hid.mk hL
 clear hL
 refine H.q15.view q5l rfl rfl ?_
 repeat' (first 
  | (with_reducible refine Fresh.intro fun b hb=>?_) <;> (try simp -dsimp -implicitDefEqProofs [*] at hb)
  | (simp -dsimp -implicitDefEqProofs [*]))
 revert b; intro pb hpb
 refine q5e (σ:=Nat × Option (Acc Note)) (fun x=>[(2,.ptr pb 0),(4,q7n x.2),(13,.list t (k1z L) L.length),(14,.int L.length),(15,.int (x.1:Nat))]) (fun x=>q6c T.apiNote ((pb,.arr T.apiPeer [.nil])::st) x.2)
  (fun x=>x.1<=L.length/\accOk Note.row 24 ((pb,.arr T.apiPeer [.nil])::st) x.2/\Hid (q5u x.2=(k1d (L.take x.1)).map (·.1))/\Hid ((L.take x.1).all (fun b=>(q8c b).isSome)=true)) (fun x=>L.length-x.1) (0,none)
  ⟨Nat.zero_le _,trivial,⟨rfl⟩,⟨rfl⟩⟩ (by simp) (.refl _) ?_
 rintro⟨i,o⟩ ⟨hi,ho,h1,h2⟩
 simp only at hi ho h1 h2
 have hw:=q5f (n:=i) (by omega)
 have gp:=z3v (T:=T.apiNote) ho
 have gs:=z3w (T:=T.apiNote) ho
 by_cases hil:i<L.length
 case pos=>
  have hg:=k8d L i hil
  have hg2:∀ h:i<(k1z L).length,(k1z L)[i]'h=q54 false L[i]:=fun h=>by
   rw [List.getElem?_eq_getElem h] at hg
   exact Option.some.inj hg
  have hlen:(q5u o).length<=i:=by
   rw [h1.out,List.length_map]
   refine Nat.le_trans (List.length_filterMap_le ..) ?_
   rw [List.length_take]
   omega
  have hbl:=kL.out _ (List.getElem_mem hil)
  have tk:L.take (i+1)=L.take i++[L[i]]:=List.take_succ_eq_append_getElem hil
  have hmem:L[i] ∈ L:=List.getElem_mem hil
  generalize hbi:L[i]=bi at *
  repeat' (simp -dsimp -implicitDefEqProofs [*])
  refine q5h (z6q bi hbl _) ?_
  rintro e s ⟨n,ok,rfl,rfl,hm⟩
  rw [q5v]
  cases hr:q8c bi with
  | none=>
   rw [hr] at hm
   simp only at hm
   subst hm
   have hB:k6z L=false:=by
    unfold k6z
    rw [List.all_eq_false]
    exact⟨bi,hmem,by rw [hr]; simp⟩
   have hC:k28 L=[]:=by unfold k28; rw [hB]; rfl
   have hE:k4v L=580:=by unfold k4v; rw [hB]; rfl
   rw [hC,hE]
   clear hB hC hE tk hr hbl hbi
   repeat' (first 
    | (with_reducible refine Fresh.intro fun b hb=>?_) <;> (try simp -dsimp -implicitDefEqProofs [*] at hb)
    | (simp -dsimp -implicitDefEqProofs [*]))
   obtain⟨-,hn1⟩:=accB_new hb
   have hn2:=hn1.1
   repeat' (simp -dsimp -implicitDefEqProofs [*])
   exact RetView.sees (SeesV.le (q:=.tuple [.agg [Note.lst false []],.int 580]) (PLeV.tuple2 (PLeV.aggs ⟨.nil1,trivial⟩) (.refl _))) (RetView.drop (st':=st) ((StLe.acc ho (StLe.fresh hpb)).trans (StLe.fresh hb)) ⟨rfl,rfl⟩)
  | some m=>
   rw [hr] at hm
   simp only at hm
   obtain⟨rfl,rfl⟩:=hm
   have n1:Hid ((k1d (L.take (i+1))).map (·.1)=q5u o++[n]):=⟨by
    rw [tk,h1.out]
    unfold k1d
    rw [List.filterMap_append,List.map_append]
    congr 1
    simp only [List.filterMap_cons,List.filterMap_nil,k6y hr,List.map_cons,List.map_nil]⟩
   have n2:Hid ((L.take (i+1)).all (fun b=>(q8c b).isSome)=true):=⟨by
    rw [tk,List.all_append,h2.out]
    simp [hr]⟩
   clear tk hr hbl hbi h1 h2
   repeat' (first 
    | (with_reducible refine Fresh.intro fun b hb=>?_) <;> (try simp -dsimp -implicitDefEqProofs [*] at hb)
    | (with_reducible refine Lit.imm ?_)
    | (simp -dsimp -implicitDefEqProofs [*]))
   refine xappend_box (bytes:=192) Note.row_len Note.row_append o ho hb [n] (by simp) rfl (by omega) (by omega) fun o' ho' hl'=>?_
   have kl:=Hid.mk hl'
   clear hl'
   repeat' (simp -dsimp -implicitDefEqProofs [*])
   exact Next.intro (i+1,o') ⟨by simp only; omega,ho'.unbox,⟨by rw [kl.out,n1.out]⟩,n2⟩ (by simp only; omega) (by simp) (StLe.box o' (accB_new hb).2)
 obtain rfl:i=L.length:=by omega
 rw [List.take_length] at h1 h2
 have hB:k6z L=true:=h2.out
 have hC:Hid (k28 L=z6z L):=⟨by unfold k28; rw [hB]; rfl⟩
 have hE:k4v L=0:=by unfold k4v; rw [hB]; rfl
 have hnl:(k1d L).length<=4096:=Nat.le_trans (List.length_filterMap_le ..) hn
 rw [hE]
 clear hB hE h2
 repeat' (simp -dsimp -implicitDefEqProofs [*])
 refine q5h (j6e (k1d L) (by omega) o h1.out _ ho) ?_
 rintro e s ⟨o1,ho1,⟨⟨k1,k2⟩,rfl⟩,rfl⟩
 rw [q5v]
 have kk1:=Hid.mk k1
 have hl1:(q5u o1).length<=4096:=by rw [k1,List.length_map,(k0c cfF y8b (k1d L)).1.length_eq]; exact hnl
 rw [<-k2]
 clear k1 k2 h1 gp gs ho o
 repeat' (simp -dsimp -implicitDefEqProofs [*])
 refine q5h (CompNote.compact_acc o1 (by omega) _ ho1) ?_
 rintro e s ⟨o2,ho2,⟨k1,rfl⟩,rfl⟩
 rw [q5v]
 have kk2:Hid (q5u o2=z6z L):=⟨by rw [k1,kk1.out]; rfl⟩
 clear k1 kk1 hl1 ho1
 have gp:=z3v (T:=T.apiNote) ho2
 have gs:=z3w (T:=T.apiNote) ho2
 have gp2:=fun y=>z3v (T:=T.apiNote) (ho2.rebox (y:=y))
 have gs2:=fun y z=>z3w (T:=T.apiNote) (ho2.rebox (y:=y)) z
 repeat' (simp -dsimp -implicitDefEqProofs [*])
 refine RetView.accF (.tuple [.agg [Note.lst false (q5u o2)],.int 0]) (ho2.rebox) (.refl _) (fun e=>?_) (fun y e=>?_) (.drop (StLe.fresh hpb) ⟨by rw [kk2.out,hC.out],rfl⟩)
 ·subst e
  exact PLeV.tuple2 (PLeV.aggs ⟨.nil1,trivial⟩) (.refl _)
 ·subst e
  exact .tuple (.cons (.agg (.cons (Frz.acc ho2.1) .nil)) (.cons (.refl _) .nil))
open Go.Pv
set_option maxRecDepth 100000
namespace SortEvent
@[simp] theorem own_sub {l:List Event}{i:Nat}{C:List PV}(h:i<l.length):sub (Event.row l++C) (i*9) 9=some (l[i]).enc:=Go.Pv.own_sub Event.len h
@[simp] theorem own_set {l:List Event}{i:Nat}{x:Event}{C:List PV}(h:i<l.length):q5g (Event.row l++C) (i*9) x.enc=Event.row (l.set i x)++C:=Go.Pv.own_set Event.len h
abbrev cmpF:PV:=.func (.func F.q23) [] []
theorem by_spec (x y:Event)(st:q5c):Rets P F.q23 [x.pv,y.pv] st (.int (j3s x.no y.no)):=by
 refine H.q23.pure q5l rfl rfl ?_
 repeat' (first 
  | (with_reducible refine Fresh.intro fun b hb=>?_) <;> (try simp -dsimp -implicitDefEqProofs [*] at hb)
  | (with_reducible refine Rets.xcall (j1a _ _ _) ?_)
  | (simp -dsimp -implicitDefEqProofs [*]))
abbrev rowO (l:List Event)(C:List PV):PObj:=.arr T.apiEvent (Event.row l++C)
def exch (l:List Event)(i j:Nat)(hi:i<l.length)(hj:j<l.length):List Event:=(l.set i l[j]).set j l[i]
theorem swap2 {l P Q R:List Event}{x y:Event}{i j:Nat}(hl:l=P++x::(Q++y::R))(hi:P.length=i)(hj:i+1+Q.length=j) :
  (∀ h:i<l.length,l[i]=x)/\(∀ h:j<l.length,l[j]=y)/\(l.set i y).set j x=P++y::(Q++x::R)/\(l.set j x).set i y=P++y::(Q++x::R)/\i<l.length/\j<l.length:=by
 subst hl; subst hi; subst hj
 have e2:P.length+1+Q.length-P.length=Q.length+1:=by omega
 have e3:¬ P.length+1+Q.length<P.length:=by omega
 refine⟨fun h=>by simp,fun h=>?_, ?_, ?_,by simp,by simp; omega⟩
 ·rw [List.getElem_append_right (by omega)]
  simp [e2]
 ·simp [List.set_append,e2,e3]
 ·simp [List.set_append,e2,e3]
theorem cut_at {A:List Event}{i:Nat}(h:i<A.length):∃ a,A.drop i=a::A.drop (i+1)/\A.take (i+1)=A.take i++[a]:=⟨A[i],List.drop_eq_getElem_cons h,List.take_succ_eq_append_getElem h⟩
theorem cut_len {A:List Event}{k:Nat}(h:k<=A.length):∃ U V,A=U++V/\U.length=k/\V.length=A.length-k:=⟨A.take k,A.drop k,(List.take_append_drop k A).symm,by simp [h],by simp⟩
abbrev key (e:Event):Int:=e.no
@[simp] theorem cmpI_lt (a b:Int):j3s a b<0 ↔ a<b:=by unfold j3s; split <;> (try split) <;> omega
@[simp] theorem cmpI_ge (a b:Int):0<=j3s a b ↔ b<=a:=by unfold j3s; split <;> (try split) <;> omega
theorem at_mid {l P R:List Event}{z:Event}{i:Nat}(hl:l=P++z::R)(hi:P.length=i):i<l.length/\∀ h:i<l.length,l[i]=z:=by
 subst hl; subst hi
 exact⟨by simp,fun h=>by simp⟩
def InsI (X U R:List Event)(x:Event)(N a j:Nat)(l:List Event):Prop:=l.length=N/\∃ P Q,U=P++Q/\l=X++P++x::(Q++R)/\a+P.length=j/\∀ q ∈ Q,key x<key q
theorem ins_step {X U R:List Event}{x:Event}{N a j:Nat}{l:List Event}(h:InsI X U R x N a j l)(hX:X.length=a)(hU:Srtd key U)(hj:a<j):∃ v l3,(∀ h:j<l.length,l[j]=x)/\(∀ h:j-1<l.length,l[j-1]=v)/\(l.set j v).set (j-1) x=l3/\l3.length=N/\j<N ∧
  (key x<key v->InsI X U R x N a (j-1) l3)/\(key v<=key x->l=X++srt key (U++[x])++R):=by
 obtain⟨hN,P,Q,h1,h2,h3,h4⟩:=h
 rcases List.eq_nil_or_concat P with rfl |⟨P',v,rfl⟩
 ·simp at h3; omega
 rw [List.concat_eq_append] at *
 simp at h3
 obtain⟨e1,e2,e3,e4,e5,e6⟩:=swap2 (l:=l) (P:=X++P') (x:=v) (Q:=[]) (y:=x) (R:=Q++R) (i:=j-1) (j:=j) (by rw [h2]; simp) (by simp; omega) (by simp; omega)
 have hlen:((l.set j v).set (j-1) x).length=N:=by simp [hN]
 refine⟨v,_,e2,e1,rfl,hlen,by omega,fun hv=>⟨hlen,P',v::Q,by rw [h1]; simp,by rw [e4]; simp,by omega,fun q hq=>?_⟩,fun hv=>?_⟩
 ·rcases List.mem_cons.1 hq with rfl | hq
  ·exact hv
  ·exact h4 q hq
 ·rw [h2,h1,<-k3i (h1 ▸ hU) (fun p hp=>?_) h4]
  ·simp
  ·rcases List.mem_append.1 hp with hp | hp
   ·have:=(h1 ▸ hU:Srtd key (P'++[v]++Q)).left.le hp (b:=v) (by simp)
    omega
   ·simp at hp; subst hp; exact hv
theorem ins_end {X U R:List Event}{x:Event}{N a:Nat}{l:List Event}(h:InsI X U R x N a a l)(hU:Srtd key U):l=X++srt key (U++[x])++R:=by
 obtain⟨hN,P,Q,h1,h2,h3,h4⟩:=h
 have:P=[]:=List.length_eq_zero_iff.1 (by omega)
 subst this
 rw [h2,h1,<-k3i (h1 ▸ hU) (by simp) h4]
 simp
theorem srt_more {T:List Event}{x:Event}:srt key (srt key T++[x])=srt key (T++[x]):=z5p (Stb.app (q73 T).symm (.refl _))
theorem insertion_spec {l l2 X L Y:List Event}{C:List PV}{b cap N a z:Nat}(hN:l.length=N)(hN2:N<=100000)(hl:l=X++L++Y)(hl2:l2=X++srt key L++Y)(hX:X.length=a)(hz:a+L.length=z)(st:q5c) :
  Does P F.q0j [.own b 0 N cap,.int (a:Nat),.int (z:Nat),cmpF] ((b,rowO l C)::st) (.tuple []) ((b,rowO l2 C)::st):=by
 have hzN:z<=N:=by
  have:=congrArg List.length hl
  simp at this
  omega
 have h0:Hid (l=X++srt key (L.take (a+1-a))++(L.drop (a+1-a)++Y)):=by
  constructor
  rw [hl,show a+1-a=1 by omega]
  rcases L with _ |⟨x,L⟩
  ·simp [srt]
  ·simp [srt,k35]
 have h2:Hid (l2=X++srt key L++Y):=⟨hl2⟩
 obtain⟨a1,ha1⟩:∃ a1,a1=a+1:=⟨_,rfl⟩
 have hwa:IntKind.i64.wrap ((a:Int)+1)=(a1:Int):=by rw [ha1,q5f (by omega)]; omega
 rw [<-ha1] at h0
 have haz:a1=a+1:=ha1
 clear hl hl2 ha1
 refine H.q0j.view q5l rfl rfl ?_
 clear haz
 repeat' (simp -dsimp -implicitDefEqProofs [*])
 have haz:a1=a+1:=by have:=q5f (n:=a) (by omega); omega
 refine q5e (fun s:Nat × List Event=>[(0,.own b 0 N cap),(1,.int (a:Nat)),(2,.int (z:Nat)),(3,cmpF),(8,.int (s.1:Nat))]) (fun s=>(b,rowO s.2 C)::st)
  (fun s=>a1<=s.1/\(s.1<=z\/s.1=a1)/\s.2.length=N/\s.2=X++srt key (L.take (s.1-a))++(L.drop (s.1-a)++Y)) (fun s=>z-s.1) (a1,l) ⟨Nat.le_refl _,.inr rfl,hN,h0.out⟩ (by simp) (by simp) ?_
 clear h0 hwa
 rintro⟨i,l'⟩ ⟨hi1,hi2,hlen',hl'⟩
 simp only at hi1 hi2 hlen' hl'
 by_cases hiz:i<z
 ·obtain⟨x,c1,c2⟩:=cut_at (A:=L) (i:=i-a) (by omega)
  obtain⟨i2,hi3⟩:∃ i2,i2=i+1:=⟨_,rfl⟩
  have hwi:IntKind.i64.wrap ((i:Int)+1)=(i2:Int):=by rw [hi3,q5f (by omega)]; omega
  have hi4:i-a+1=i2-a:=by omega
  rw [hi4] at c1 c2
  have hU:=q66 (key:=key) (L.take (i-a))
  have hlU:(srt key (L.take (i-a))).length=i-a:=by simp; omega
  have hI:InsI X (srt key (L.take (i-a))) (L.drop (i2-a)++Y) x N a i l':=⟨hlen',srt key (L.take (i-a)),[],by simp,by rw [hl',c1]; simp,by omega,by simp⟩
  have hfin:∀ l3:List Event,l3=X++srt key (srt key (L.take (i-a))++[x])++(L.drop (i2-a)++Y)->l3=X++srt key (L.take (i2-a))++(L.drop (i2-a)++Y):=fun l3 h=>by rw [h,srt_more,c2]
  generalize srt key (L.take (i-a))=U at hI hfin hU
  have hii:i<i2/\i2<=z/\a1<=i2/\a<i:=by omega
  clear hl' c1 c2 hi3 hi4 hlU hlen' haz hi2
  repeat' (simp -dsimp -implicitDefEqProofs [*])
  refine q5e (fun s:Nat × List Event=>[(0,.own b 0 N cap),(1,.int (a:Nat)),(2,.int (z:Nat)),(3,cmpF),(8,.int (i:Nat)),(9,.int (s.1:Nat))]) (fun s=>(b,rowO s.2 C)::st)
   (fun s=>a<=s.1/\InsI X U (L.drop (i2-a)++Y) x N a s.1 s.2) (fun s=>s.1) (i,l') ⟨by simp only; omega,hI⟩ (by simp) (by simp) ?_
  rintro⟨j,l''⟩ ⟨hj1,hJ⟩
  simp only at hj1 hJ
  have hlen2:=hJ.1
  by_cases hj:a<j
  ·obtain⟨v,l3,s1,s2,s3,s4,s5,s6,s7⟩:=ins_step hJ hX hU hj
   obtain⟨q,hq⟩:∃ q,q=j-1:=⟨_,rfl⟩
   have hwq:IntKind.i64.wrap ((j:Int)-1)=(q:Int):=by rw [q5i (by omega) (by omega)]; omega
   rw [<-hq] at s2 s3 s6
   have hqj:q<j/\a<=q/\q<N:=by omega
   clear hq hX hI hJ hz
   by_cases hxv:x.no<v.no
   ·replace s6:=s6 hxv
    clear s7 hfin
    repeat' (simp -dsimp -implicitDefEqProofs [*])
    refine DrawLate.intro [] ?_
    repeat' (first 
     | (with_reducible refine Rets.xcall (by_spec _ _ _) ?_)
     | (simp -dsimp -implicitDefEqProofs [*]))
    refine DrawLate.intro [b] ?_
    repeat' (first 
     | ((with_reducible refine q5r ?_ fun hk=>?_); omega)
     | (simp -dsimp -implicitDefEqProofs [*]))
    exact Next.intro (q,l3) ⟨hqj.2.1,s6⟩ (by simp only; omega) (by simp) q5m
   ·have s8:Hid (l''=X++srt key (L.take (i2-a))++(L.drop (i2-a)++Y)):=⟨hfin l'' (s7 (Int.not_lt.1 hxv))⟩
    clear s6 s7 s3 hfin
    repeat' (first 
     | (with_reducible refine Rets.xcall (by_spec _ _ _) ?_)
     | (with_reducible refine DrawLate.intro [] ?_)
     | (simp -dsimp -implicitDefEqProofs [*]))
    exact Next.intro (i2,l'') ⟨hii.2.2.1,.inl hii.2.1,hlen2,s8.out⟩ (by simp only; omega) (by simp) q5m
  ·have hja:j=a:=by omega
   subst hja
   have s8:Hid (l''=X++srt key (L.take (i2-j))++(L.drop (i2-j)++Y)):=⟨hfin l'' (ins_end hJ hU)⟩
   clear hfin hI hJ
   repeat' (first 
    | (with_reducible refine DrawLate.intro [] ?_)
    | (simp -dsimp -implicitDefEqProofs [*]))
   exact Next.intro (i2,l'') ⟨hii.2.2.1,.inl hii.2.1,hlen2,s8.out⟩ (by simp only; omega) (by simp) q5m
 ·have e:l'=l2:=by rw [hl',h2.out,List.take_of_length_le (by omega),List.drop_of_length_le (by omega)]; simp
  clear hl' hX hz h2
  subst e
  repeat' (simp -dsimp -implicitDefEqProofs [*])
  exact .drop (StLe.refl _) ⟨rfl,rfl⟩
end SortEvent
end Go.Proofs.YtmlmoaimjifpgaaGreat
