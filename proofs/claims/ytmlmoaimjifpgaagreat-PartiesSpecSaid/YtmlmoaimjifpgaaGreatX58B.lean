/- Compacting, of Decisions. -/
import Derived.Test.YtmlmoaimjifpgaaGreatU58J
import Derived.Test.YtmlmoaimjifpgaaGreatLCd
import Derived.Test.YtmlmoaimjifpgaaGreatLAc
import Derived.Test.YtmlmoaimjifpgaaGreatT58K
import Derived.Test.YtmlmoaimjifpgaaGreatP58C
import Derived.Test.YtmlmoaimjifpgaaGreatO58A
import Derived.Test.YtmlmoaimjifpgaaGreatB58B
namespace Go.Proofs.YtmlmoaimjifpgaaGreat
open Go.Pv
set_option maxRecDepth 100000
set_option maxHeartbeats 8000000
namespace CompDecision
abbrev key (e:Decision):Int:=e.no
abbrev eqB (x y:Decision):Bool:=decide (key x=key y)
abbrev eqF:PV:=.func (.func F.q3f) [] []
theorem eq_spec (x y:Decision)(st:q5f):Rets P F.q3f [x.pv,y.pv] st (.bool (eqB x y)):=by
 refine H.q3f.pure q5n rfl rfl ?_
 repeat' (first 
  | (with_reducible refine Fresh.intro fun b hb=>?_) <;> (try simp -dsimp -implicitDefEqProofs [*] at hb)
  | (simp -dsimp -implicitDefEqProofs [*]))
abbrev rowO (l:List Decision)(C:List PV):PObj:=.arr T.apiDecision (Decision.row l++C)
def CompQ (l:List Decision)(b cap:Nat)(st:q5f)(e:PEnd)(s:q5f):Prop:=∃ R,(Decision.row (q9m eqB l)++R).length=cap*14/\e=.ret (.own b 0 (q9m eqB l).length cap)/\s=(b,.arr T.apiDecision (Decision.row (q9m eqB l)++R))::st
@[simp] theorem own_sub {l:List Decision}{i:Nat}{C:List PV}(h:i<l.length):sub (Decision.row l++C) (i*14) 14=some (l[i]).enc:=Go.Pv.own_sub Decision.len h
@[simp] theorem own_set {l:List Decision}{i:Nat}{x:Decision}{C:List PV}(h:i<l.length):q5j (Decision.row l++C) (i*14) x.enc=Decision.row (l.set i x)++C:=Go.Pv.own_set Decision.len h
theorem cmpB_few {l:List Decision}(h:l.length<2):q9m eqB l=l:=by
 match l,h with
 | [],_=>rfl
 | [_],_=>rfl
 | _::_::_,h=>simp at h; omega
theorem clear_ret {c:PV->PEnd}{p:PV}{b:Nat}{T:TypeId}{st:q5f}{Q:PEnd->q5f->Prop}(m:List Decision)(C:List PV)(w cap:Nat)(hw:w<=m.length)(hC:(Decision.row m++C).length=cap*14)
  (h:∀ R,(Decision.row (m.take w)++R).length=cap*14->RetView c p ((b,.arr T (Decision.row (m.take w)++R))::st) Q) (Z:List PV):RetView c p ((b,.arr T (q5j (Decision.row m++C) (w*14) Z))::st) Q:=by
 have h1:Decision.row m++C=Decision.row (m.take w)++(Decision.row (m.drop w)++C):=by rw [<-List.append_assoc,<-Decision.row_append,List.take_append_drop]
 have h2:(Decision.row (m.take w)).length=w*14:=by rw [Decision.row_len,List.length_take]; omega
 have h3:q5j (Decision.row m++C) (w*14) Z=Decision.row (m.take w)++q5j (Decision.row (m.drop w)++C) 0 Z:=by
  rw [h1,<-h2]
  exact q5w Z _ _ 0
 rw [h3]
 refine h _ ?_
 rw [List.length_append,q7u,<-List.length_append,<-h1,hC]
theorem compact_spec {l:List Decision}{C:List PV}{b cap N:Nat}(hN:l.length=N)(hN2:N<=100000)(hcap:N<=cap/\cap<=9223372036854775807)(hC:(Decision.row l++C).length=cap*14)(st:q5f) :
  PCalls P F.q0d [.own b 0 N cap,eqF] ((b,rowO l C)::st) (CompQ l b cap st):=by
 have hrl:=Decision.row_len l
 refine H.q0d.view q5n rfl rfl ?_
 by_cases h2:N<2
 ·have e:q9m eqB l=l:=cmpB_few (by omega)
  have h3:(N:Int)<2:=by omega
  repeat' (simp -dsimp -implicitDefEqProofs [*])
  exact .same ⟨C,by rw [e]; exact hC,by rw [e,hN],by rw [e]⟩
 have h3:¬ (N:Int)<2:=by omega
 repeat' (simp -dsimp -implicitDefEqProofs [*])
 refine q5h (fun i:Nat=>[(0,.own b 0 N cap),(1,eqF),(5,.int i)]) (fun _=>(b,rowO l C)::st) (fun i=>(1<=i/\i<=N)/\Hid (q9m eqB (l.take i)=l.take i)) (fun i=>N-i) 1 ⟨⟨Nat.le_refl _,by omega⟩,⟨z3j eqB l⟩⟩ (by simp) (.refl _) ?_
 rintro i ⟨⟨hi1,hi⟩,hI⟩
 by_cases hin:i<N
 case neg=>
  obtain rfl:i=N:=by omega
  have e:q9m eqB l=l:=by
   have:=hI.out
   rwa [List.take_of_length_le (by omega)] at this
  clear hI
  repeat' (simp -dsimp -implicitDefEqProofs [*])
  exact .same ⟨C,by rw [e]; exact hC,by rw [e,hN],by rw [e]⟩
 have hil:i<l.length:=by omega
 have hil1:i-1<l.length:=by omega
 have hwi:=q5i (n:=i) (by omega)
 have hwm:IntKind.i64.wrap ((i:Int)-1)=((i-1:Nat):Int):=by rw [q5l (by omega) (by omega)]; omega
 have st1:=k26 eqB l (i-1) (by omega)
 have ei:i-1+1=i:=by omega
 have ei2:i-1+2=i+1:=by omega
 simp only [ei,ei2] at st1
 have g1:=own_sub (C:=C) hil
 have g2:=own_sub (C:=C) hil1
 have c:=fun st=>eq_spec l[i] l[i-1] st
 by_cases hk:eqB l[i] l[i-1]=true
 case neg=>
  rw [if_neg hk] at st1
  have nx:Hid (q9m eqB (l.take (i+1))=l.take (i+1)):=⟨by rw [st1,hI.out,List.take_succ_eq_append_getElem hil]⟩
  clear st1 hI
  rw [Bool.not_eq_true] at hk
  rw [hk] at c
  clear hk
  repeat' (first 
   | (with_reducible refine Rets.xcall (c _) ?_)
   | ((with_reducible refine q5v ?_ fun hk=>?_); omega)
   | (simp -dsimp -implicitDefEqProofs [*]))
  exact Next.intro (i+1) ⟨⟨by omega,by omega⟩,nx⟩ (by omega) (by simp) q5o
 rw [if_pos hk,List.append_nil] at st1
 have nx:Hid (Cmp2 eqB l (i+1) i l):=⟨Cmp2.start hI.out (by omega) hi1 (by rw [st1,hI.out])⟩
 clear st1 hI
 rw [hk] at c
 clear hk
 repeat' (first 
  | (with_reducible refine Rets.xcall (c _) ?_)
  | (with_reducible refine And.intro (fun h=>?_) (fun h=>?_)) <;> (try (exfalso; omega))
  | ((with_reducible refine q5v ?_ fun hk=>?_); omega)
  | (simp -dsimp -implicitDefEqProofs [*]))
 clear g1 g2 c
 refine q5h (σ:=Nat × Nat × List Decision) (fun x=>[(0,.own b 0 N cap),(1,eqF),(5,.int (x.2.1:Nat)),(6,.own b (i*14) (N-i) (cap-i)),(7,.int (x.1:Nat))]) (fun x=>(b,rowO x.2.2 C)::st) (fun x=>(1<=x.1/\i+x.1<=N)/\Hid (Cmp2 eqB l (i+x.1) x.2.1 x.2.2)) (fun x=>N-i-x.1) (1,i,l) ⟨⟨Nat.le_refl _,by simp only; omega⟩,nx⟩ (by simp) (.refl _) ?_
 rintro⟨k,w,m⟩ ⟨⟨hk1,hk2⟩,hI⟩
 simp only at hk1 hk2 hI
 have hlt:=hI.out.lt
 have hml:=hI.out.len
 have hmr:(Decision.row m++C).length=cap*14:=by rw [List.length_append,Decision.row_len,hml,<-Decision.row_len,<-List.length_append,hC]
 by_cases hkn:i+k<N
 case neg=>
  have hdone:Hid (m.take w=q9m eqB l):=⟨by rw [hI.out.done,List.take_of_length_le (by omega)]⟩
  have hwl:Hid ((q9m eqB l).length=w):=⟨by rw [<-hdone.out,List.length_take]; omega⟩
  clear hI nx
  have hkk:¬ (k:Int)<(N-i:Nat):=by omega
  have hwN:w<=N:=by omega
  have hwc:w<=cap:=by omega
  have hb2:w*14+(N-w)*14<=cap*14:=by omega
  repeat' (first 
   | (with_reducible refine And.intro (fun h=>?_) (fun h=>?_)) <;> (try (exfalso; omega))
   | (simp -dsimp -implicitDefEqProofs [*]))
  refine clear_ret m C w cap (by omega) hmr (fun R hR=>?_) _
  exact .same ⟨R,by rw [<-hdone.out]; exact hR,by rw [hwl.out],by rw [<-hdone.out]⟩
 obtain⟨j,hj⟩:∃ j,i+k=j+1:=⟨i+k-1,by omega⟩
 have hjl:j+1<l.length:=by omega
 have hwk:=q5i (n:=k) (by omega)
 have hww:=q5i (n:=w) (by omega)
 have hwm2:IntKind.i64.wrap ((k:Int)-1)=((k-1:Nat):Int):=by rw [q5l (by omega) (by omega)]; omega
 have a1:m[j+1]?=some l[j+1]:=hI.out.rest (j+1) hjl (by omega)
 have a2:m[j]?=some l[j]:=hI.out.rest j (by omega) (by omega)
 have b1:j+1<m.length:=by omega
 have b2:j<m.length:=by omega
 rw [List.getElem?_eq_getElem b1,Option.some.injEq] at a1
 rw [List.getElem?_eq_getElem b2,Option.some.injEq] at a2
 have g3:sub (Decision.row m++C) (i*14+k*14) 14=some (l[j+1]).enc:=by rw [show i*14+k*14=(j+1)*14 by omega,<-a1]; exact own_sub b1
 have g4:sub (Decision.row m++C) (i*14+(k-1)*14) 14=some (l[j]).enc:=by rw [show i*14+(k-1)*14=j*14 by omega,<-a2]; exact own_sub b2
 clear a1 a2
 have g5:∀ x:Decision,q5j (Decision.row m++C) (w*14) x.enc=Decision.row (m.set w x)++C:=fun x=>own_set (by omega)
 have hkk:(k:Int)<(N-i:Nat):=by omega
 have hkc:i*14+k*14+14<=cap*14:=by omega
 rw [hj] at hI
 have c:=fun st=>eq_spec l[j+1] l[j] st
 by_cases hq:eqB l[j+1] l[j]=true
 case pos=>
  have nx2:Hid (Cmp2 eqB l (i+(k+1)) w m):=⟨by rw [show i+(k+1)=j+2 by omega]; exact hI.out.same hjl hq⟩
  clear hI nx
  rw [hq] at c
  clear hq
  generalize l[j+1]=x at *
  generalize l[j]=y at *
  repeat' (first 
   | (with_reducible refine Rets.xcall (c _) ?_)
   | (with_reducible refine DrawLate.intro [] ?_)
   | ((with_reducible refine q5v ?_ fun hk=>?_); omega)
   | (simp -dsimp -implicitDefEqProofs [*]))
  exact Next.intro (k+1,w,m) ⟨⟨by simp only; omega,by simp only; omega⟩,nx2⟩ (by simp only; omega) (by simp) q5o
 have nx2:Hid (Cmp2 eqB l (i+(k+1)) (w+1) (m.set w l[j+1])):=⟨by rw [show i+(k+1)=j+2 by omega]; exact hI.out.keep hjl (by simpa using hq)⟩
 clear hI nx
 rw [Bool.not_eq_true] at hq
 rw [hq] at c
 clear hq
 generalize l[j+1]=x at *
 generalize l[j]=y at *
 repeat' (first 
  | (with_reducible refine Rets.xcall (c _) ?_)
  | (with_reducible refine DrawLate.intro [] ?_)
  | ((with_reducible refine q5v ?_ fun hk=>?_); omega)
  | (simp -dsimp -implicitDefEqProofs [*]))
 exact Next.intro (k+1,w+1,m.set w x) ⟨⟨by simp only; omega,by simp only; omega⟩,nx2⟩ (by simp only; omega) (by simp) q5o
theorem compact0 (st:q5f):Rets P F.q0d [.nil,eqF] st .nil:=by
 refine H.q0d.view q5n rfl rfl ?_
 repeat' (simp -dsimp -implicitDefEqProofs [*])
 exact .same ⟨rfl,rfl⟩
theorem acc_row {a:Acc Decision}(h:a.Ok Decision.row 14):∃ C,a.R=Decision.row a.l++C/\(Decision.row a.l++C).length=a.cap*14:=
 ⟨a.R.drop (a.l.length*14),by rw [<-h.row,List.take_append_drop],by rw [<-h.row,List.take_append_drop,h.len]⟩
theorem ok_of {l:List Decision}{C:List PV}{b cap:Nat}(h1:l.length<=cap)(h2:cap<=9223372036854775807)(h3:(Decision.row l++C).length=cap*14):Acc.Ok Decision.row 14 ⟨l,b,cap,Decision.row l++C⟩:=
 ⟨h1,h2,h3,by rw [<-Decision.row_len]; exact List.take_left⟩
theorem compact_acc (o:Option (Acc Decision))(hl:(q50 o).length<=100000)(st:q5f)(ho:accOk Decision.row 14 st o) :
  PCalls P F.q0d [q7s o,eqF] (q6e T.apiDecision st o) fun e s=>∃ o',accOk Decision.row 14 st o'/\(q50 o'=q9m eqB (q50 o)/\e=.ret (q7s o'))/\s=q6e T.apiDecision st o':=by
 cases o with
 | none=>exact PCalls.mono (compact0 st) fun e s ⟨h1,h2⟩=>⟨none,trivial,⟨rfl,h1⟩,h2⟩
 | some a=>
  obtain⟨ha,hb⟩:=ho
  obtain⟨C,h1,h2⟩:=acc_row ha
  have:=compact_spec (b:=a.b) (cap:=a.cap) (N:=a.l.length) rfl hl ⟨ha.le,ha.cap⟩ h2 st
  simp only [q7b,q52,q7k] at *
  rw [h1]
  refine PCalls.mono this fun e s ⟨R,k1,k2,k3⟩=>⟨some ⟨q9m eqB a.l,a.b,a.cap,Decision.row (q9m eqB a.l)++R⟩,⟨ok_of (Nat.le_trans (z3k eqB a.l) ha.le) ha.cap k1,hb⟩,⟨rfl,k2⟩,k3⟩
abbrev cmpF:PV:=.func (.func F.q25) [] []
theorem insertion0 (st:q5f):Rets P F.q0f [.nil,.int 0,.int 0,cmpF] st (.tuple []):=by
 refine H.q0f.view q5n rfl rfl ?_
 repeat' (simp -dsimp -implicitDefEqProofs [*])
 refine q5h (fun _:Unit=>[(8,.int 1),(0,.nil),(1,.int 0),(2,.int 0),(3,cmpF)]) (fun _=>st) (fun _=>True) (fun _=>0) () trivial (by simp) (.refl _) ?_
 rintro - -
 repeat' (simp -dsimp -implicitDefEqProofs [*])
 exact .same ⟨rfl,rfl⟩
theorem stable0 (st:q5f):Rets P F.q0t [.nil,.int 0,cmpF] st (.tuple []):=by
 refine H.q0t.view q5n rfl rfl ?_
 repeat' (simp -dsimp -implicitDefEqProofs [*])
 refine q5h (fun _:Unit=>[(8,.int 20),(7,.int 0),(6,.int 20),(0,.nil),(1,.int 0),(2,cmpF)]) (fun _=>st) (fun _=>True) (fun _=>0) () trivial (by simp) (.refl _) ?_
 rintro - -
 repeat' (first 
  | (with_reducible refine Rets.xcall (insertion0 _) ?_)
  | (simp -dsimp -implicitDefEqProofs [*]))
 refine q5h (fun _:Unit=>[(6,.int 20),(1,.int 0)]) (fun _=>st) (fun _=>True) (fun _=>0) () trivial (by simp) (.refl _) ?_
 rintro - -
 repeat' (simp -dsimp -implicitDefEqProofs [*])
 exact .same ⟨rfl,rfl⟩
theorem sort0 (st:q5f):Rets P F.q0b [.nil,cmpF] st (.tuple []):=by
 refine H.q0b.view q5n rfl rfl ?_
 repeat' (first 
  | (with_reducible refine Rets.xcall (stable0 _) ?_)
  | (simp -dsimp -implicitDefEqProofs [*]))
 exact .same ⟨rfl,rfl⟩
theorem sort_own {l:List Decision}{C:List PV}{b cap N:Nat}(hN:l.length=N)(hN2:N<=100000)(st:q5f) :
  Does P F.q0b [.own b 0 N cap,cmpF] ((b,rowO l C)::st) (.tuple []) ((b,rowO (srt key l) C)::st):=by
 have hs:=SortDecision.stable_spec (C:=C) (b:=b) (cap:=cap) hN hN2 st
 refine H.q0b.view q5n rfl rfl ?_
 repeat' (first 
  | (with_reducible refine Does.xcall (hs) ?_)
  | (simp -dsimp -implicitDefEqProofs [*]))
 exact .drop (StLe.refl _) ⟨rfl,rfl⟩
theorem sort_acc (o:Option (Acc Decision))(hl:(q50 o).length<=100000)(st:q5f)(ho:accOk Decision.row 14 st o) :
  PCalls P F.q0b [q7s o,cmpF] (q6e T.apiDecision st o) fun e s=>∃ o',accOk Decision.row 14 st o'/\((q50 o'=srt key (q50 o)/\q7s o'=q7s o)/\e=.ret (.tuple []))/\s=q6e T.apiDecision st o':=by
 cases o with
 | none=>exact PCalls.mono (sort0 st) fun e s ⟨h1,h2⟩=>⟨none,trivial,⟨⟨rfl,rfl⟩,h1⟩,h2⟩
 | some a=>
  obtain⟨ha,hb⟩:=ho
  obtain⟨C,h1,h2⟩:=acc_row ha
  have:=sort_own (l:=a.l) (C:=C) (b:=a.b) (cap:=a.cap) (N:=a.l.length) rfl hl st
  have hl2:(srt key a.l).length=a.l.length:=k3q ..
  simp only [q7b,q52,q7k] at *
  rw [h1]
  refine PCalls.mono this fun e s ⟨k1,k2⟩=>⟨some ⟨srt key a.l,a.b,a.cap,Decision.row (srt key a.l)++C⟩,⟨ok_of (by rw [hl2]; exact ha.le) ha.cap (by rw [List.length_append,Decision.row_len,hl2,<-Decision.row_len,<-List.length_append,h2]),hb⟩,⟨⟨rfl, ?_⟩,k1⟩,k2⟩
  show PV.own a.b 0 (srt key a.l).length a.cap=_
  rw [hl2]
end CompDecision
open Go.Pv Go.Pv.Cd
set_option maxRecDepth 100000
set_option maxHeartbeats 8000000
def z4a (l:List Note):List Event:=l.filterMap fun n=>if n.kind=1 then some n.ev else none
def k6f (l:List Note):List Decision:=l.filterMap fun n=>if n.kind=1 then none else some n.dec
abbrev v0d (e:Event):Int:=e.no
abbrev v0e (d:Decision):Int:=d.no
def y09 (l:List Note):List Event:=k4s v0d (srt v0d (z4a l))
def y1a (l:List Note):List Decision:=k4s v0e (srt v0e (k6f l))
theorem j9e {l:List Note}{i:Nat}(h:i<l.length):z4a (l.take (i+1))=z4a (l.take i)++if l[i].kind=1 then [l[i].ev] else []:=by
 unfold z4a
 rw [List.take_succ_eq_append_getElem h,List.filterMap_append]
 congr 1
 split <;> simp [*]
theorem j6d {l:List Note}{i:Nat}(h:i<l.length):k6f (l.take (i+1))=k6f (l.take i)++if l[i].kind=1 then [] else [l[i].dec]:=by
 unfold k6f
 rw [List.take_succ_eq_append_getElem h,List.filterMap_append]
 congr 1
 split <;> simp [*]
theorem j6e (l:List Note):(z4a l).length<=l.length:=List.length_filterMap_le ..
theorem j1h (l:List Note):(k6f l).length<=l.length:=List.length_filterMap_le ..
structure C44 where
 l:List PV
 len:l.length=44
def C44.row (c:C44)(x y:PV):List PV:=c.l++[x,y]
section
variable (c:C44) (x y z:PV)
@[simp] theorem C44.all:sub c.l 0 44=some c.l:=by
 have:=c.len
 simp [sub,this,List.take_of_length_le]
@[simp] theorem C44.len':c.l.length=44:=c.len
@[simp] theorem C44.row_len:(c.row x y).length=46:=by simp [C44.row,c.len]
@[simp] theorem C44.row_all:sub (c.row x y) 0 46=some (c.row x y):=by
 have:=c.row_len x y
 simp [sub,this,List.take_of_length_le]
@[simp] theorem C44.get44:(c.row x y)[44]?=some x:=by
 unfold C44.row
 rw [List.getElem?_append_right (by rw [c.len]; omega),c.len]
 rfl
@[simp] theorem C44.get45:(c.row x y)[45]?=some y:=by
 unfold C44.row
 rw [List.getElem?_append_right (by rw [c.len]; omega),c.len]
 rfl
@[simp] theorem C44.getE44 (h:44<(c.row x y).length):(c.row x y)[44]'h=x:=by
 have:=c.get44 x y
 rw [List.getElem?_eq_getElem h] at this
 exact Option.some.inj this
@[simp] theorem C44.getE45 (h:45<(c.row x y).length):(c.row x y)[45]'h=y:=by
 have:=c.get45 x y
 rw [List.getElem?_eq_getElem h] at this
 exact Option.some.inj this
@[simp] theorem C44.set44:(c.row x y).set 44 z=c.row z y:=by
 unfold C44.row
 rw [List.set_append_right _ _ (by rw [c.len]; omega),c.len]
 rfl
@[simp] theorem C44.set45:(c.row x y).set 45 z=c.row x z:=by
 unfold C44.row
 rw [List.set_append_right _ _ (by rw [c.len]; omega),c.len]
 rfl
theorem k2j:∀ {ps l m:List PV},l.length=ps.length->q5j (l++m) 0 ps=ps++m
 | [],[],_,_=>rfl
 | p::ps,a::l,m,h=>by
  have ih:=k2j (ps:=ps) (l:=l) (m:=m) (by simpa using h)
  rw [q5j]
  show q5j (p::(l++m)) 1 ps=_
  have:=q5w ps [p] (l++m) 0
  simp only [List.length_singleton,List.singleton_append] at this
  rw [this,ih]
  rfl
 | [],_::_,_,h=>by simp at h
 | _::_,[],_,h=>by simp at h
@[simp] theorem C44.fill (u v:PV):q5j (c.row x y) 0 (c.row u v)=c.row u v:=by
 have:=k2j (ps:=c.row u v) (l:=c.row x y) (m:=[]) (by simp)
 rwa [List.append_nil,List.append_nil] at this
theorem C44.start {R:List PV}(h:R.length=46)(h1:R.drop 44=[x,y]):q5j R 0 c.l=c.row x y:=by
 have e:R=R.take 44++[x,y]:=by rw [<-h1,List.take_append_drop]
 rw [e]
 exact k2j (by rw [List.length_take,h,c.len]; rfl)
end
def z44:List PV:=.val (.string ⟨#[]⟩)::.nil::.nil::.nil::.nil::.nil::.nil::.nil::.int 0::.nil::.nil::.nil::List.replicate 32 (.val (.int .u8 0))
theorem j24 (c:C44)(l:List Note)(h:Rise q6p okN l)(hl:l.length<=1000)(st:q5f) :
  Rets P F.q4d [.agg c.l,.agg [Note.lst false l]] st (.tuple [.agg (c.row (Event.lst false (y09 l)) (Decision.lst false (y1a l))),.int 0]):=by
 have hv:=fun st=>k2i l (by omega) true ⟨fun _=>⟨h,by omega⟩,fun _=>rfl⟩ st
 clear h
 have hrl:=Note.row_len l
 refine H.q4d.view q5n rfl rfl ?_
 repeat' (first 
  | (with_reducible refine Fresh.intro fun b hb=>?_) <;> (try simp -dsimp -implicitDefEqProofs [*] at hb)
  | (with_reducible refine Rets.xcall (hv _) ?_)
  | (simp -dsimp -implicitDefEqProofs [*]))
 revert b; intro wb hwb
 refine q5h (σ:=Nat × Option (Acc Event) × Option (Acc Decision)) (fun x=>[(4,.ptr wb 0),(15,Note.lst false l),(16,.int l.length),(17,.int (x.1:Nat))])
  (fun x=>(wb,.arr T.apiWorld (c.row (q7s x.2.1) (q7s x.2.2)))::q6e T.apiDecision (q6e T.apiEvent st x.2.1) x.2.2)
  (fun x=>x.1<=l.length/\Ok3 Event.row 9 Decision.row 14 T.apiEvent T.apiDecision wb x.2.1 x.2.2 st/\Hid (q50 x.2.1=z4a (l.take x.1))/\Hid (q50 x.2.2=k6f (l.take x.1))) (fun x=>l.length-x.1) (0,none,none)
  ⟨Nat.zero_le _,⟨trivial,trivial,hwb.2.2⟩,⟨rfl⟩,⟨rfl⟩⟩ (by simp) (by rw [C44.start c .nil .nil rfl rfl]; exact q9r q5o) ?_
 clear hv
 rintro⟨i,o1,o2⟩ ⟨hi,hok,h1,h2⟩
 simp only at hi hok h1 h2
 have hw:=q5i (n:=i) (by omega)
 by_cases hil:i<l.length
 case pos=>
  have hsub:=Note.row_sub l i hil
  have e1:=j9e hil
  have e2:=j6d hil
  have l1:(q50 o1).length<=1000:=by
   rw [h1.out]
   have:=j6e (l.take i)
   rw [List.length_take] at this
   omega
  have l2:(q50 o2).length<=1000:=by
   rw [h2.out]
   have:=j1h (l.take i)
   rw [List.length_take] at this
   omega
  by_cases hk:l[i].kind=1
  ·rw [if_pos hk] at e1 e2
   have n1:Hid (z4a (l.take (i+1))=q50 o1++[l[i].ev]):=⟨by rw [e1,h1.out]⟩
   have n2:Hid (q50 o2=k6f (l.take (i+1))):=⟨by rw [e2,h2.out,List.append_nil]⟩
   clear e1 e2 h1 h2
   generalize l[i]=x at *
   repeat' (first 
    | (with_reducible refine Fresh.intro fun b hb=>?_) <;> (try simp -dsimp -implicitDefEqProofs [*] at hb)
    | (with_reducible refine Lit.imm ?_)
    | (simp -dsimp -implicitDefEqProofs [*]))
   refine hok.appA (bytes:=72) Event.row_len Event.row_append hb [x.ev] (by simp) rfl (by omega) (by omega) fun a' st' hok' hl' hg hs=>?_
   have kl:=Hid.mk hl'
   clear hl'
   repeat' (simp -dsimp -implicitDefEqProofs [*])
   exact Next.intro (i+1,a',o2) ⟨by simp only; omega,hok',⟨by rw [kl.out,n1.out]⟩,n2⟩ (by simp only; omega) (by simp) (hs _)
  ·rw [if_neg hk] at e1 e2
   have n1:Hid (q50 o1=z4a (l.take (i+1))):=⟨by rw [e1,h1.out,List.append_nil]⟩
   have n2:Hid (k6f (l.take (i+1))=q50 o2++[l[i].dec]):=⟨by rw [e2,h2.out]⟩
   clear e1 e2 h1 h2
   generalize l[i]=x at *
   repeat' (first 
    | (with_reducible refine Fresh.intro fun b hb=>?_) <;> (try simp -dsimp -implicitDefEqProofs [*] at hb)
    | (with_reducible refine Lit.imm ?_)
    | (simp -dsimp -implicitDefEqProofs [*]))
   refine hok.appB (bytes:=112) Decision.row_len Decision.row_append hb [x.dec] (by simp) rfl (by omega) (by omega) fun b' st' hok' hl' hg hs=>?_
   have kl:=Hid.mk hl'
   clear hl'
   repeat' (simp -dsimp -implicitDefEqProofs [*])
   exact Next.intro (i+1,o1,b') ⟨by simp only; omega,hok',n1,⟨by rw [kl.out,n2.out]⟩⟩ (by simp only; omega) (by simp) (hs _)
 obtain rfl:i=l.length:=by omega
 rw [List.take_length] at h1 h2
 have l1:(q50 o1).length<=1000:=by
  rw [h1.out]
  have:=j6e l
  omega
 have l2:(q50 o2).length<=1000:=by
  rw [h2.out]
  have:=j1h l
  omega
 clear hi hil
 repeat' (simp -dsimp -implicitDefEqProofs [*])
 refine q5k (hok.callA fun st h=>CompEvent.sort_acc o1 (by omega) st h) ?_
 rintro e s ⟨a1,hok1,⟨⟨k1,k2⟩,rfl⟩,rfl⟩
 rw [q5x]
 have m1:Hid (q50 a1=srt v0d (z4a l)):=⟨by rw [k1,h1.out]⟩
 have m1l:(q50 a1).length<=1000:=by rw [k1,k3q]; exact l1
 clear k1 h1 hok
 repeat' (simp -dsimp -implicitDefEqProofs [*])
 refine q5k (hok1.callB fun st h=>CompDecision.sort_acc o2 (by omega) st h) ?_
 rintro e s ⟨b1,hok2,⟨⟨k3,k4⟩,rfl⟩,rfl⟩
 rw [q5x]
 have m2:Hid (q50 b1=srt v0e (k6f l)):=⟨by rw [k3,h2.out]⟩
 have m2l:(q50 b1).length<=1000:=by rw [k3,k3q]; exact l2
 clear k3 h2 hok1
 rw [<-k2,<-k4]
 clear k2 k4 l1 l2 o1 o2
 repeat' (simp -dsimp -implicitDefEqProofs [*])
 refine q5k (hok2.callA fun st h=>CompEvent.compact_acc a1 (by omega) st h) ?_
 rintro e s ⟨a2,hok3,⟨k1,rfl⟩,rfl⟩
 rw [q5x]
 have m3:Hid (q50 a2=y09 l):=⟨by rw [k1,m1.out]; exact (j0y v0d _).symm⟩
 clear k1 m1 m1l hok2
 repeat' (simp -dsimp -implicitDefEqProofs [*])
 refine q5k (hok3.callB fun st h=>CompDecision.compact_acc b1 (by omega) st h) ?_
 rintro e s ⟨b2,hok4,⟨k1,rfl⟩,rfl⟩
 rw [q5x]
 have m4:Hid (q50 b2=y1a l):=⟨by rw [k1,m2.out]; exact (j0y v0e _).symm⟩
 clear k1 m2 m2l hok3
 repeat' (simp -dsimp -implicitDefEqProofs [*])
 refine RetView.accF (.tuple [.agg (c.row (q7s a2) (Decision.lst false (q50 b2))),.int 0]) hok4.ob (StLe.fresh hok4.ow) (fun e=>?_) (fun y e=>?_) ?_
 ·subst e
  exact PLeV.tuple2 (PLeV.aggs (PsLe.app (PsLe.refl _) ⟨.refl _,.nil1,trivial⟩)) (.refl _)
 ·subst e
  exact .tuple (.cons (.agg (Frzs.app (Frzs.refl _) (.cons (.refl _) (.cons (Frz.acc hok4.ob.1) .nil)))) (.cons (.refl _) .nil))
 refine RetView.accF (.tuple [.agg (c.row (Event.lst false (q50 a2)) (Decision.lst false (q50 b2))),.int 0]) hok4.oa (.refl _) (fun e=>?_) (fun y e=>?_) ?_
 ·subst e
  exact PLeV.tuple2 (PLeV.aggs (PsLe.app (PsLe.refl _) ⟨.nil1,.refl _,trivial⟩)) (.refl _)
 ·subst e
  exact .tuple (.cons (.agg (Frzs.app (Frzs.refl _) (.cons (Frz.acc hok4.oa.1) (.cons (.refl _) .nil)))) (.cons (.refl _) .nil))
 exact .same ⟨by rw [m3.out,m4.out],rfl⟩
open Go.Pv Go.Pv.Cd
set_option maxRecDepth 100000
set_option maxHeartbeats 8000000
theorem k4g (t u:Bool)(l:List Note)(hl:l.length<=100000)(st:q5f):Rets P F.q1e [Note.lst t l,Note.lst u l] st (.bool true):=by
 have hrl:=Note.row_len l
 refine H.q1e.view q5n rfl rfl ?_
 repeat' (simp -dsimp -implicitDefEqProofs [*])
 refine q5h (fun n:Nat=>[(0,Note.lst t l),(1,Note.lst u l),(5,.int n)]) (fun _=>st) (fun n=>n<=l.length) (fun n=>l.length-n) 0 (Nat.zero_le _) (by simp [*]) (.refl _) ?_
 rintro n hn
 by_cases hnl:n<l.length
 ·have hwr:=q5i (n:=n) (by omega)
  have g1:=Note.row_sub l n hnl
  repeat' (simp -dsimp -implicitDefEqProofs [*])
  exact Next.intro (n+1) (by omega) (by omega) (by simp) q5o
 ·obtain rfl:n=l.length:=by omega
  repeat' (simp -dsimp -implicitDefEqProofs [*])
  exact .same ⟨rfl,rfl⟩
theorem k91 (p:Pk)(st:q5f):Rets P F.q2l [p.pv,p.pv] st (.bool true):=by
 obtain⟨a,b,d⟩:=p
 refine H.q2l.view q5n rfl rfl ?_
 repeat' (first 
  | (with_reducible refine Fresh.intro fun b hb=>?_) <;> (try simp -dsimp -implicitDefEqProofs [*] at hb)
  | (simp -dsimp -implicitDefEqProofs [q9h, *]))
 exact .drop (st':=st) q5o ⟨rfl,rfl⟩
theorem z4b (q:List Pk)(ap:List Lk)(hl:q.length<=100000)(hap:ap.length<=100000)(st:q5f):Rets P F.q3u [q9z q ap,q9z q ap] st (.bool true):=by
 have hrl:=Pk.row_len q
 have hral:=Lk.row_len ap
 refine H.q3u.view q5n rfl rfl ?_
 repeat' (first 
  | (with_reducible refine Fresh.intro fun b hb=>?_) <;> (try simp -dsimp -implicitDefEqProofs [*] at hb)
  | (simp -dsimp -implicitDefEqProofs [*]))
 rename_i b1 hb1
 revert b; intro b2 hb2
 refine q5h (fun n:Nat=>[(2,.ptr b1 0),(3,.ptr b2 0),(5,.int n)]) (fun _=>(b2,.arr T.apiNet [Pk.lst false q,Lk.lst false ap])::(b1,.arr T.apiNet [Pk.lst false q,Lk.lst false ap])::st) (fun n=>n<=q.length) (fun n=>q.length-n) 0 (Nat.zero_le _) (by simp [*]) q5o ?_
 rintro n hn
 by_cases hnl:n<q.length
 ·have hwr:=q5i (n:=n) (by omega)
  have g1:=Pk.row_sub q n hnl
  generalize q[n]=p at *
  repeat' (first 
   | (with_reducible refine Rets.xcall (k91 p _) ?_)
   | (with_reducible refine DrawLate.intro [] ?_)
   | (simp -dsimp -implicitDefEqProofs [*]))
  exact Next.intro (n+1) (by omega) (by omega) (by simp) q5o
 ·obtain rfl:n=q.length:=by omega
  repeat' (simp -dsimp -implicitDefEqProofs [*])
  refine q5h (fun n:Nat=>[(2,.ptr b1 0),(3,.ptr b2 0),(6,.int n)]) (fun _=>(b2,.arr T.apiNet [Pk.lst false q,Lk.lst false ap])::(b1,.arr T.apiNet [Pk.lst false q,Lk.lst false ap])::st) (fun n=>n<=ap.length) (fun n=>ap.length-n) 0 (Nat.zero_le _) (by simp [*]) q5o ?_
  rintro n hn
  by_cases hna:n<ap.length
  ·have hwr:=q5i (n:=n) (by omega)
   have g1:=Lk.row_sub ap n hna
   have he:=y99 ap[n] ap[n]
   rw [decide_eq_true rfl] at he
   generalize ap[n]=x at *
   repeat' (simp -dsimp -implicitDefEqProofs [*])
   exact Next.intro (n+1) (by omega) (by omega) (by simp) q5o
  ·obtain rfl:n=ap.length:=by omega
   repeat' (simp -dsimp -implicitDefEqProofs [*])
   exact .drop (st':=st) q5o ⟨rfl,rfl⟩
theorem z0s (peers:List (List Note))(q:List Pk)(ap:List Lk)(hl:q.length<=100000)(hap:ap.length<=100000)(hp:peers.length<=1000)(hn:∀ l ∈ peers,l.length<=100000)(st:q5f) :
  Rets P F.q27 [.agg [.list false (prR peers) peers.length,Pk.lst false q,Lk.lst false ap],.agg [.list false (prR peers) peers.length,Pk.lst false q,Lk.lst false ap]] st (.bool true):=by
 refine H.q27.view q5n rfl rfl ?_
 have hc:=fun st=>z4b q ap hl hap st
 repeat' (first 
  | (with_reducible refine Fresh.intro fun b hb=>?_) <;> (try simp -dsimp -implicitDefEqProofs [*] at hb)
  | (with_reducible refine Rets.xcall (hc _) ?_)
  | (simp -dsimp -implicitDefEqProofs [*]))
 rename_i b1 hb1
 revert b; intro b2 hb2
 refine q5h (fun n:Nat=>[(2,.ptr b1 0),(3,.ptr b2 0),(5,.int n)]) (fun _=>(b2,.arr T.apiRoom [.list false (prR peers) peers.length,Pk.lst false q,Lk.lst false ap])::(b1,.arr T.apiRoom [.list false (prR peers) peers.length,Pk.lst false q,Lk.lst false ap])::st) (fun n=>n<=peers.length) (fun n=>peers.length-n) 0 (Nat.zero_le _) (by simp [*]) q5o ?_
 rintro n hnn
 by_cases hnl:n<peers.length
 ·have hwr:=q5i (n:=n) (by omega)
  have g1:=k3f hnl
  have g2:∀ h:n<(prR peers).length,(prR peers)[n]'h=Note.lst false peers[n]:=fun h=>by
   rw [List.getElem?_eq_getElem h] at g1
   exact Option.some.inj g1
  have hs:=fun st=>k4g false false peers[n] (hn _ (List.getElem_mem hnl)) st
  generalize peers[n]=x at *
  repeat' (first 
   | (with_reducible refine Rets.xcall (hs _) ?_)
   | (with_reducible refine DrawLate.intro [] ?_)
   | (simp -dsimp -implicitDefEqProofs [*]))
  exact Next.intro (n+1) (by omega) (by omega) (by simp) q5o
 ·obtain rfl:n=peers.length:=by omega
  repeat' (simp -dsimp -implicitDefEqProofs [*])
  exact .drop (st':=st) q5o ⟨rfl,rfl⟩
open Go.Pv Go.Pv.Cd
set_option maxRecDepth 100000
set_option maxHeartbeats 4000000
end Go.Proofs.YtmlmoaimjifpgaaGreat
