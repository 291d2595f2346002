/- Compacting, of Decisions. -/
import Derived.Test.YtmlmoaimjifpgaaGreatU58J
import Derived.Test.YtmlmoaimjifpgaaGreatLCd
import Derived.Test.YtmlmoaimjifpgaaGreatLAc
import Derived.Test.YtmlmoaimjifpgaaGreatX58A
import Derived.Test.YtmlmoaimjifpgaaGreatP58C
import Derived.Test.YtmlmoaimjifpgaaGreatR58B
import Derived.Test.YtmlmoaimjifpgaaGreatV58B
namespace Go.Proofs.YtmlmoaimjifpgaaGreat
open Go.Pv
set_option maxRecDepth 100000
set_option maxHeartbeats 8000000
namespace CompDecision
abbrev key (e:Decision):Int:=e.no
abbrev eqB (x y:Decision):Bool:=decide (key x=key y)
abbrev eqF:PV:=.func (.func F.q3d) [] []
theorem eq_spec (x y:Decision)(st:q5c):Rets P F.q3d [x.pv,y.pv] st (.bool (eqB x y)):=by
 refine H.q3d.pure q5l rfl rfl ?_
 repeat' (first 
  | (with_reducible refine Fresh.intro fun b hb=>?_) <;> (try simp -dsimp -implicitDefEqProofs [*] at hb)
  | (simp -dsimp -implicitDefEqProofs [*]))
abbrev rowO (l:List Decision)(C:List PV):PObj:=.arr T.apiDecision (Decision.row l++C)
def CompQ (l:List Decision)(b cap:Nat)(st:q5c)(e:PEnd)(s:q5c):Prop:=∃ R,(Decision.row (q8x eqB l)++R).length=cap*14/\e=.ret (.own b 0 (q8x eqB l).length cap)/\s=(b,.arr T.apiDecision (Decision.row (q8x eqB l)++R))::st
@[simp] theorem own_sub {l:List Decision}{i:Nat}{C:List PV}(h:i<l.length):sub (Decision.row l++C) (i*14) 14=some (l[i]).enc:=Go.Pv.own_sub Decision.len h
@[simp] theorem own_set {l:List Decision}{i:Nat}{x:Decision}{C:List PV}(h:i<l.length):q5g (Decision.row l++C) (i*14) x.enc=Decision.row (l.set i x)++C:=Go.Pv.own_set Decision.len h
theorem cmpB_few {l:List Decision}(h:l.length<2):q8x eqB l=l:=by
 match l,h with
 | [],_=>rfl
 | [_],_=>rfl
 | _::_::_,h=>simp at h; omega
theorem clear_ret {c:PV->PEnd}{p:PV}{b:Nat}{T:TypeId}{st:q5c}{Q:PEnd->q5c->Prop}(m:List Decision)(C:List PV)(w cap:Nat)(hw:w<=m.length)(hC:(Decision.row m++C).length=cap*14)
  (h:∀ R,(Decision.row (m.take w)++R).length=cap*14->RetView c p ((b,.arr T (Decision.row (m.take w)++R))::st) Q) (Z:List PV):RetView c p ((b,.arr T (q5g (Decision.row m++C) (w*14) Z))::st) Q:=by
 have h1:Decision.row m++C=Decision.row (m.take w)++(Decision.row (m.drop w)++C):=by rw [<-List.append_assoc,<-Decision.row_append,List.take_append_drop]
 have h2:(Decision.row (m.take w)).length=w*14:=by rw [Decision.row_len,List.length_take]; omega
 have h3:q5g (Decision.row m++C) (w*14) Z=Decision.row (m.take w)++q5g (Decision.row (m.drop w)++C) 0 Z:=by
  rw [h1,<-h2]
  exact q5t Z _ _ 0
 rw [h3]
 refine h _ ?_
 rw [List.length_append,q7p,<-List.length_append,<-h1,hC]
theorem compact_spec {l:List Decision}{C:List PV}{b cap N:Nat}(hN:l.length=N)(hN2:N<=100000)(hcap:N<=cap/\cap<=9223372036854775807)(hC:(Decision.row l++C).length=cap*14)(st:q5c) :
  PCalls P F.q0d [.own b 0 N cap,eqF] ((b,rowO l C)::st) (CompQ l b cap st):=by
 have hrl:=Decision.row_len l
 refine H.q0d.view q5l rfl rfl ?_
 by_cases h2:N<2
 ·have e:q8x eqB l=l:=cmpB_few (by omega)
  have h3:(N:Int)<2:=by omega
  repeat' (simp -dsimp -implicitDefEqProofs [*])
  exact .same ⟨C,by rw [e]; exact hC,by rw [e,hN],by rw [e]⟩
 have h3:¬ (N:Int)<2:=by omega
 repeat' (simp -dsimp -implicitDefEqProofs [*])
 refine q5e (fun i:Nat=>[(0,.own b 0 N cap),(1,eqF),(5,.int i)]) (fun _=>(b,rowO l C)::st) (fun i=>(1<=i/\i<=N)/\Hid (q8x eqB (l.take i)=l.take i)) (fun i=>N-i) 1 ⟨⟨Nat.le_refl _,by omega⟩,⟨z3t eqB l⟩⟩ (by simp) (.refl _) ?_
 rintro i ⟨⟨hi1,hi⟩,hI⟩
 by_cases hin:i<N
 case neg=>
  obtain rfl:i=N:=by omega
  have e:q8x eqB l=l:=by
   have:=hI.out
   rwa [List.take_of_length_le (by omega)] at this
  clear hI
  repeat' (simp -dsimp -implicitDefEqProofs [*])
  exact .same ⟨C,by rw [e]; exact hC,by rw [e,hN],by rw [e]⟩
 have hil:i<l.length:=by omega
 have hil1:i-1<l.length:=by omega
 have hwi:=q5f (n:=i) (by omega)
 have hwm:IntKind.i64.wrap ((i:Int)-1)=((i-1:Nat):Int):=by rw [q5i (by omega) (by omega)]; omega
 have st1:=k21 eqB l (i-1) (by omega)
 have ei:i-1+1=i:=by omega
 have ei2:i-1+2=i+1:=by omega
 simp only [ei,ei2] at st1
 have g1:=own_sub (C:=C) hil
 have g2:=own_sub (C:=C) hil1
 have c:=fun st=>eq_spec l[i] l[i-1] st
 by_cases hk:eqB l[i] l[i-1]=true
 case neg=>
  rw [if_neg hk] at st1
  have nx:Hid (q8x eqB (l.take (i+1))=l.take (i+1)):=⟨by rw [st1,hI.out,List.take_succ_eq_append_getElem hil]⟩
  clear st1 hI
  rw [Bool.not_eq_true] at hk
  rw [hk] at c
  clear hk
  repeat' (first 
   | (with_reducible refine Rets.xcall (c _) ?_)
   | ((with_reducible refine q5r ?_ fun hk=>?_); omega)
   | (simp -dsimp -implicitDefEqProofs [*]))
  exact Next.intro (i+1) ⟨⟨by omega,by omega⟩,nx⟩ (by omega) (by simp) q5m
 rw [if_pos hk,List.append_nil] at st1
 have nx:Hid (Cmp2 eqB l (i+1) i l):=⟨Cmp2.start hI.out (by omega) hi1 (by rw [st1,hI.out])⟩
 clear st1 hI
 rw [hk] at c
 clear hk
 repeat' (first 
  | (with_reducible refine Rets.xcall (c _) ?_)
  | (with_reducible refine And.intro (fun h=>?_) (fun h=>?_)) <;> (try (exfalso; omega))
  | ((with_reducible refine q5r ?_ fun hk=>?_); omega)
  | (simp -dsimp -implicitDefEqProofs [*]))
 clear g1 g2 c
 refine q5e (σ:=Nat × Nat × List Decision) (fun x=>[(0,.own b 0 N cap),(1,eqF),(5,.int (x.2.1:Nat)),(6,.own b (i*14) (N-i) (cap-i)),(7,.int (x.1:Nat))]) (fun x=>(b,rowO x.2.2 C)::st) (fun x=>(1<=x.1/\i+x.1<=N)/\Hid (Cmp2 eqB l (i+x.1) x.2.1 x.2.2)) (fun x=>N-i-x.1) (1,i,l) ⟨⟨Nat.le_refl _,by simp only; omega⟩,nx⟩ (by simp) (.refl _) ?_
 rintro⟨k,w,m⟩ ⟨⟨hk1,hk2⟩,hI⟩
 simp only at hk1 hk2 hI
 have hlt:=hI.out.lt
 have hml:=hI.out.len
 have hmr:(Decision.row m++C).length=cap*14:=by rw [List.length_append,Decision.row_len,hml,<-Decision.row_len,<-List.length_append,hC]
 by_cases hkn:i+k<N
 case neg=>
  have hdone:Hid (m.take w=q8x eqB l):=⟨by rw [hI.out.done,List.take_of_length_le (by omega)]⟩
  have hwl:Hid ((q8x eqB l).length=w):=⟨by rw [<-hdone.out,List.length_take]; omega⟩
  clear hI nx
  have hkk:¬ (k:Int)<(N-i:Nat):=by omega
  have hwN:w<=N:=by omega
  have hwc:w<=cap:=by omega
  have hb2:w*14+(N-w)*14<=cap*14:=by omega
  repeat' (first 
   | (with_reducible refine And.intro (fun h=>?_) (fun h=>?_)) <;> (try (exfalso; omega))
   | (simp -dsimp -implicitDefEqProofs [*]))
  refine clear_ret m C w cap (by omega) hmr (fun R hR=>?_) _
  exact .same ⟨R,by rw [<-hdone.out]; exact hR,by rw [hwl.out],by rw [<-hdone.out]⟩
 obtain⟨j,hj⟩:∃ j,i+k=j+1:=⟨i+k-1,by omega⟩
 have hjl:j+1<l.length:=by omega
 have hwk:=q5f (n:=k) (by omega)
 have hww:=q5f (n:=w) (by omega)
 have hwm2:IntKind.i64.wrap ((k:Int)-1)=((k-1:Nat):Int):=by rw [q5i (by omega) (by omega)]; omega
 have a1:m[j+1]?=some l[j+1]:=hI.out.rest (j+1) hjl (by omega)
 have a2:m[j]?=some l[j]:=hI.out.rest j (by omega) (by omega)
 have b1:j+1<m.length:=by omega
 have b2:j<m.length:=by omega
 rw [List.getElem?_eq_getElem b1,Option.some.injEq] at a1
 rw [List.getElem?_eq_getElem b2,Option.some.injEq] at a2
 have g3:sub (Decision.row m++C) (i*14+k*14) 14=some (l[j+1]).enc:=by rw [show i*14+k*14=(j+1)*14 by omega,<-a1]; exact own_sub b1
 have g4:sub (Decision.row m++C) (i*14+(k-1)*14) 14=some (l[j]).enc:=by rw [show i*14+(k-1)*14=j*14 by omega,<-a2]; exact own_sub b2
 clear a1 a2
 have g5:∀ x:Decision,q5g (Decision.row m++C) (w*14) x.enc=Decision.row (m.set w x)++C:=fun x=>own_set (by omega)
 have hkk:(k:Int)<(N-i:Nat):=by omega
 have hkc:i*14+k*14+14<=cap*14:=by omega
 rw [hj] at hI
 have c:=fun st=>eq_spec l[j+1] l[j] st
 by_cases hq:eqB l[j+1] l[j]=true
 case pos=>
  have nx2:Hid (Cmp2 eqB l (i+(k+1)) w m):=⟨by rw [show i+(k+1)=j+2 by omega]; exact hI.out.same hjl hq⟩
  clear hI nx
  rw [hq] at c
  clear hq
  generalize l[j+1]=x at *
  generalize l[j]=y at *
  repeat' (first 
   | (with_reducible refine Rets.xcall (c _) ?_)
   | (with_reducible refine DrawLate.intro [] ?_)
   | ((with_reducible refine q5r ?_ fun hk=>?_); omega)
   | (simp -dsimp -implicitDefEqProofs [*]))
  exact Next.intro (k+1,w,m) ⟨⟨by simp only; omega,by simp only; omega⟩,nx2⟩ (by simp only; omega) (by simp) q5m
 have nx2:Hid (Cmp2 eqB l (i+(k+1)) (w+1) (m.set w l[j+1])):=⟨by rw [show i+(k+1)=j+2 by omega]; exact hI.out.keep hjl (by simpa using hq)⟩
 clear hI nx
 rw [Bool.not_eq_true] at hq
 rw [hq] at c
 clear hq
 generalize l[j+1]=x at *
 generalize l[j]=y at *
 repeat' (first 
  | (with_reducible refine Rets.xcall (c _) ?_)
  | (with_reducible refine DrawLate.intro [] ?_)
  | ((with_reducible refine q5r ?_ fun hk=>?_); omega)
  | (simp -dsimp -implicitDefEqProofs [*]))
 exact Next.intro (k+1,w+1,m.set w x) ⟨⟨by simp only; omega,by simp only; omega⟩,nx2⟩ (by simp only; omega) (by simp) q5m
theorem compact0 (st:q5c):Rets P F.q0d [.nil,eqF] st .nil:=by
 refine H.q0d.view q5l rfl rfl ?_
 repeat' (simp -dsimp -implicitDefEqProofs [*])
 exact .same ⟨rfl,rfl⟩
theorem acc_row {a:Acc Decision}(h:a.Ok Decision.row 14):∃ C,a.R=Decision.row a.l++C/\(Decision.row a.l++C).length=a.cap*14:=
 ⟨a.R.drop (a.l.length*14),by rw [<-h.row,List.take_append_drop],by rw [<-h.row,List.take_append_drop,h.len]⟩
theorem ok_of {l:List Decision}{C:List PV}{b cap:Nat}(h1:l.length<=cap)(h2:cap<=9223372036854775807)(h3:(Decision.row l++C).length=cap*14):Acc.Ok Decision.row 14 ⟨l,b,cap,Decision.row l++C⟩:=
 ⟨h1,h2,h3,by rw [<-Decision.row_len]; exact List.take_left⟩
theorem compact_acc (o:Option (Acc Decision))(hl:(q5u o).length<=100000)(st:q5c)(ho:accOk Decision.row 14 st o) :
  PCalls P F.q0d [q7n o,eqF] (q6c T.apiDecision st o) fun e s=>∃ o',accOk Decision.row 14 st o'/\(q5u o'=q8x eqB (q5u o)/\e=.ret (q7n o'))/\s=q6c T.apiDecision st o':=by
 cases o with
 | none=>exact PCalls.mono (compact0 st) fun e s ⟨h1,h2⟩=>⟨none,trivial,⟨rfl,h1⟩,h2⟩
 | some a=>
  obtain⟨ha,hb⟩:=ho
  obtain⟨C,h1,h2⟩:=acc_row ha
  have:=compact_spec (b:=a.b) (cap:=a.cap) (N:=a.l.length) rfl hl ⟨ha.le,ha.cap⟩ h2 st
  simp only [q65,q5y,q7e] at *
  rw [h1]
  refine PCalls.mono this fun e s ⟨R,k1,k2,k3⟩=>⟨some ⟨q8x eqB a.l,a.b,a.cap,Decision.row (q8x eqB a.l)++R⟩,⟨ok_of (Nat.le_trans (k5n eqB a.l) ha.le) ha.cap k1,hb⟩,⟨rfl,k2⟩,k3⟩
abbrev cmpF:PV:=.func (.func F.q24) [] []
theorem insertion0 (st:q5c):Rets P F.q0f [.nil,.int 0,.int 0,cmpF] st (.tuple []):=by
 refine H.q0f.view q5l rfl rfl ?_
 repeat' (simp -dsimp -implicitDefEqProofs [*])
 refine q5e (fun _:Unit=>[(8,.int 1),(0,.nil),(1,.int 0),(2,.int 0),(3,cmpF)]) (fun _=>st) (fun _=>True) (fun _=>0) () trivial (by simp) (.refl _) ?_
 rintro - -
 repeat' (simp -dsimp -implicitDefEqProofs [*])
 exact .same ⟨rfl,rfl⟩
theorem stable0 (st:q5c):Rets P F.q0s [.nil,.int 0,cmpF] st (.tuple []):=by
 refine H.q0s.view q5l rfl rfl ?_
 repeat' (simp -dsimp -implicitDefEqProofs [*])
 refine q5e (fun _:Unit=>[(8,.int 20),(7,.int 0),(6,.int 20),(0,.nil),(1,.int 0),(2,cmpF)]) (fun _=>st) (fun _=>True) (fun _=>0) () trivial (by simp) (.refl _) ?_
 rintro - -
 repeat' (first 
  | (with_reducible refine Rets.xcall (insertion0 _) ?_)
  | (simp -dsimp -implicitDefEqProofs [*]))
 refine q5e (fun _:Unit=>[(6,.int 20),(1,.int 0)]) (fun _=>st) (fun _=>True) (fun _=>0) () trivial (by simp) (.refl _) ?_
 rintro - -
 repeat' (simp -dsimp -implicitDefEqProofs [*])
 exact .same ⟨rfl,rfl⟩
theorem sort0 (st:q5c):Rets P F.q0b [.nil,cmpF] st (.tuple []):=by
 refine H.q0b.view q5l rfl rfl ?_
 repeat' (first 
  | (with_reducible refine Rets.xcall (stable0 _) ?_)
  | (simp -dsimp -implicitDefEqProofs [*]))
 exact .same ⟨rfl,rfl⟩
theorem sort_own {l:List Decision}{C:List PV}{b cap N:Nat}(hN:l.length=N)(hN2:N<=100000)(st:q5c) :
  Does P F.q0b [.own b 0 N cap,cmpF] ((b,rowO l C)::st) (.tuple []) ((b,rowO (srt key l) C)::st):=by
 have hs:=SortDecision.stable_spec (C:=C) (b:=b) (cap:=cap) hN hN2 st
 refine H.q0b.view q5l rfl rfl ?_
 repeat' (first 
  | (with_reducible refine Does.xcall (hs) ?_)
  | (simp -dsimp -implicitDefEqProofs [*]))
 exact .drop (StLe.refl _) ⟨rfl,rfl⟩
theorem sort_acc (o:Option (Acc Decision))(hl:(q5u o).length<=100000)(st:q5c)(ho:accOk Decision.row 14 st o) :
  PCalls P F.q0b [q7n o,cmpF] (q6c T.apiDecision st o) fun e s=>∃ o',accOk Decision.row 14 st o'/\((q5u o'=srt key (q5u o)/\q7n o'=q7n o)/\e=.ret (.tuple []))/\s=q6c T.apiDecision st o':=by
 cases o with
 | none=>exact PCalls.mono (sort0 st) fun e s ⟨h1,h2⟩=>⟨none,trivial,⟨⟨rfl,rfl⟩,h1⟩,h2⟩
 | some a=>
  obtain⟨ha,hb⟩:=ho
  obtain⟨C,h1,h2⟩:=acc_row ha
  have:=sort_own (l:=a.l) (C:=C) (b:=a.b) (cap:=a.cap) (N:=a.l.length) rfl hl st
  have hl2:(srt key a.l).length=a.l.length:=q9y ..
  simp only [q65,q5y,q7e] at *
  rw [h1]
  refine PCalls.mono this fun e s ⟨k1,k2⟩=>⟨some ⟨srt key a.l,a.b,a.cap,Decision.row (srt key a.l)++C⟩,⟨ok_of (by rw [hl2]; exact ha.le) ha.cap (by rw [List.length_append,Decision.row_len,hl2,<-Decision.row_len,<-List.length_append,h2]),hb⟩,⟨⟨rfl, ?_⟩,k1⟩,k2⟩
  show PV.own a.b 0 (srt key a.l).length a.cap=_
  rw [hl2]
end CompDecision
open Go.Pv Go.Pv.Cd
set_option maxRecDepth 100000
set_option maxHeartbeats 8000000
def k7w (l:List Note):List Event:=l.filterMap fun n=>if n.kind=1 then some n.ev else none
def k2h (l:List Note):List Decision:=l.filterMap fun n=>if n.kind=1 then none else some n.dec
abbrev k9y (e:Event):Int:=e.no
abbrev k9z (d:Decision):Int:=d.no
def k90 (l:List Note):List Event:=k3w k9y (srt k9y (k7w l))
def k91 (l:List Note):List Decision:=k3w k9z (srt k9z (k2h l))
theorem z4b {l:List Note}{i:Nat}(h:i<l.length):k7w (l.take (i+1))=k7w (l.take i)++if l[i].kind=1 then [l[i].ev] else []:=by
 unfold k7w
 rw [List.take_succ_eq_append_getElem h,List.filterMap_append]
 congr 1
 split <;> simp [*]
theorem k92 {l:List Note}{i:Nat}(h:i<l.length):k2h (l.take (i+1))=k2h (l.take i)++if l[i].kind=1 then [] else [l[i].dec]:=by
 unfold k2h
 rw [List.take_succ_eq_append_getElem h,List.filterMap_append]
 congr 1
 split <;> simp [*]
theorem z4c (l:List Note):(k7w l).length<=l.length:=List.length_filterMap_le ..
theorem k8e (l:List Note):(k2h l).length<=l.length:=List.length_filterMap_le ..
structure C44 where
 l:List PV
 len:l.length=44
def C44.row (c:C44)(x y:PV):List PV:=c.l++[x,y]
section
variable (c:C44) (x y z:PV)
@[simp] theorem C44.all:sub c.l 0 44=some c.l:=by
 have:=c.len
 simp [sub,this,List.take_of_length_le]
@[simp] theorem C44.len':c.l.length=44:=c.len
@[simp] theorem C44.row_len:(c.row x y).length=46:=by simp [C44.row,c.len]
@[simp] theorem C44.row_all:sub (c.row x y) 0 46=some (c.row x y):=by
 have:=c.row_len x y
 simp [sub,this,List.take_of_length_le]
@[simp] theorem C44.contest:sub (c.row x y) 0 44=some c.l:=by
 have:=c.len
 simp [sub,C44.row,this]
@[simp] theorem C44.get44:(c.row x y)[44]?=some x:=by
 unfold C44.row
 rw [List.getElem?_append_right (by rw [c.len]; omega),c.len]
 rfl
@[simp] theorem C44.get45:(c.row x y)[45]?=some y:=by
 unfold C44.row
 rw [List.getElem?_append_right (by rw [c.len]; omega),c.len]
 rfl
@[simp] theorem C44.getE44 (h:44<(c.row x y).length):(c.row x y)[44]'h=x:=by
 have:=c.get44 x y
 rw [List.getElem?_eq_getElem h] at this
 exact Option.some.inj this
@[simp] theorem C44.getE45 (h:45<(c.row x y).length):(c.row x y)[45]'h=y:=by
 have:=c.get45 x y
 rw [List.getElem?_eq_getElem h] at this
 exact Option.some.inj this
@[simp] theorem C44.set44:(c.row x y).set 44 z=c.row z y:=by
 unfold C44.row
 rw [List.set_append_right _ _ (by rw [c.len]; omega),c.len]
 rfl
@[simp] theorem C44.set45:(c.row x y).set 45 z=c.row x z:=by
 unfold C44.row
 rw [List.set_append_right _ _ (by rw [c.len]; omega),c.len]
 rfl
theorem k18:∀ {ps l m:List PV},l.length=ps.length->q5g (l++m) 0 ps=ps++m
 | [],[],_,_=>rfl
 | p::ps,a::l,m,h=>by
  have ih:=k18 (ps:=ps) (l:=l) (m:=m) (by simpa using h)
  rw [q5g]
  show q5g (p::(l++m)) 1 ps=_
  have:=q5t ps [p] (l++m) 0
  simp only [List.length_singleton,List.singleton_append] at this
  rw [this,ih]
  rfl
 | [],_::_,_,h=>by simp at h
 | _::_,[],_,h=>by simp at h
@[simp] theorem C44.fill (u v:PV):q5g (c.row x y) 0 (c.row u v)=c.row u v:=by
 have:=k18 (ps:=c.row u v) (l:=c.row x y) (m:=[]) (by simp)
 rwa [List.append_nil,List.append_nil] at this
theorem C44.start {R:List PV}(h:R.length=46)(h1:R.drop 44=[x,y]):q5g R 0 c.l=c.row x y:=by
 have e:R=R.take 44++[x,y]:=by rw [<-h1,List.take_append_drop]
 rw [e]
 exact k18 (by rw [List.length_take,h,c.len]; rfl)
end
def z44:List PV:=.val (.string ⟨#[]⟩)::.nil::.nil::.nil::.nil::.nil::.nil::.nil::.int 0::.nil::.nil::.nil::List.replicate 32 (.val (.int .u8 0))
theorem z2h (c:C44)(l:List Note)(h:Rise q6v okN l)(hl:l.length<=1000)(st:q5c) :
  Rets P F.q2h [.agg c.l,.agg [Note.lst false l]] st (.tuple [.agg (c.row (Event.lst false (k90 l)) (Decision.lst false (k91 l))),.int 0]):=by
 have hv:=fun st=>k0d l (by omega) true ⟨fun _=>⟨h,by omega⟩,fun _=>rfl⟩ st
 clear h
 have hrl:=Note.row_len l
 refine H.q2h.view q5l rfl rfl ?_
 repeat' (first 
  | (with_reducible refine Fresh.intro fun b hb=>?_) <;> (try simp -dsimp -implicitDefEqProofs [*] at hb)
  | (with_reducible refine Rets.xcall (hv _) ?_)
  | (simp -dsimp -implicitDefEqProofs [*]))
 revert b; intro wb hwb
 refine q5e (σ:=Nat × Option (Acc Event) × Option (Acc Decision)) (fun x=>[(4,.ptr wb 0),(15,Note.lst false l),(16,.int l.length),(17,.int (x.1:Nat))])
  (fun x=>(wb,.arr T.apiWorld (c.row (q7n x.2.1) (q7n x.2.2)))::q6c T.apiDecision (q6c T.apiEvent st x.2.1) x.2.2)
  (fun x=>x.1<=l.length/\Ok3 Event.row 9 Decision.row 14 T.apiEvent T.apiDecision wb x.2.1 x.2.2 st/\Hid (q5u x.2.1=k7w (l.take x.1))/\Hid (q5u x.2.2=k2h (l.take x.1))) (fun x=>l.length-x.1) (0,none,none)
  ⟨Nat.zero_le _,⟨trivial,trivial,hwb.2.2⟩,⟨rfl⟩,⟨rfl⟩⟩ (by simp) (by rw [C44.start c .nil .nil rfl rfl]; exact k1a q5m) ?_
 clear hv
 rintro⟨i,o1,o2⟩ ⟨hi,hok,h1,h2⟩
 simp only at hi hok h1 h2
 have hw:=q5f (n:=i) (by omega)
 by_cases hil:i<l.length
 case pos=>
  have hsub:=Note.row_sub l i hil
  have e1:=z4b hil
  have e2:=k92 hil
  have l1:(q5u o1).length<=1000:=by
   rw [h1.out]
   have:=z4c (l.take i)
   rw [List.length_take] at this
   omega
  have l2:(q5u o2).length<=1000:=by
   rw [h2.out]
   have:=k8e (l.take i)
   rw [List.length_take] at this
   omega
  by_cases hk:l[i].kind=1
  ·rw [if_pos hk] at e1 e2
   have n1:Hid (k7w (l.take (i+1))=q5u o1++[l[i].ev]):=⟨by rw [e1,h1.out]⟩
   have n2:Hid (q5u o2=k2h (l.take (i+1))):=⟨by rw [e2,h2.out,List.append_nil]⟩
   clear e1 e2 h1 h2
   generalize l[i]=x at *
   repeat' (first 
    | (with_reducible refine Fresh.intro fun b hb=>?_) <;> (try simp -dsimp -implicitDefEqProofs [*] at hb)
    | (with_reducible refine Lit.imm ?_)
    | (simp -dsimp -implicitDefEqProofs [*]))
   refine hok.appA (bytes:=72) Event.row_len Event.row_append hb [x.ev] (by simp) rfl (by omega) (by omega) fun a' st' hok' hl' hg hs=>?_
   have kl:=Hid.mk hl'
   clear hl'
   repeat' (simp -dsimp -implicitDefEqProofs [*])
   exact Next.intro (i+1,a',o2) ⟨by simp only; omega,hok',⟨by rw [kl.out,n1.out]⟩,n2⟩ (by simp only; omega) (by simp) (hs _)
  ·rw [if_neg hk] at e1 e2
   have n1:Hid (q5u o1=k7w (l.take (i+1))):=⟨by rw [e1,h1.out,List.append_nil]⟩
   have n2:Hid (k2h (l.take (i+1))=q5u o2++[l[i].dec]):=⟨by rw [e2,h2.out]⟩
   clear e1 e2 h1 h2
   generalize l[i]=x at *
   repeat' (first 
    | (with_reducible refine Fresh.intro fun b hb=>?_) <;> (try simp -dsimp -implicitDefEqProofs [*] at hb)
    | (with_reducible refine Lit.imm ?_)
    | (simp -dsimp -implicitDefEqProofs [*]))
   refine hok.appB (bytes:=112) Decision.row_len Decision.row_append hb [x.dec] (by simp) rfl (by omega) (by omega) fun b' st' hok' hl' hg hs=>?_
   have kl:=Hid.mk hl'
   clear hl'
   repeat' (simp -dsimp -implicitDefEqProofs [*])
   exact Next.intro (i+1,o1,b') ⟨by simp only; omega,hok',n1,⟨by rw [kl.out,n2.out]⟩⟩ (by simp only; omega) (by simp) (hs _)
 obtain rfl:i=l.length:=by omega
 rw [List.take_length] at h1 h2
 have l1:(q5u o1).length<=1000:=by
  rw [h1.out]
  have:=z4c l
  omega
 have l2:(q5u o2).length<=1000:=by
  rw [h2.out]
  have:=k8e l
  omega
 clear hi hil
 repeat' (simp -dsimp -implicitDefEqProofs [*])
 refine q5h (hok.callA fun st h=>CompEvent.sort_acc o1 (by omega) st h) ?_
 rintro e s ⟨a1,hok1,⟨⟨k1,k2⟩,rfl⟩,rfl⟩
 rw [q5v]
 have m1:Hid (q5u a1=srt k9y (k7w l)):=⟨by rw [k1,h1.out]⟩
 have m1l:(q5u a1).length<=1000:=by rw [k1,q9y]; exact l1
 clear k1 h1 hok
 repeat' (simp -dsimp -implicitDefEqProofs [*])
 refine q5h (hok1.callB fun st h=>CompDecision.sort_acc o2 (by omega) st h) ?_
 rintro e s ⟨b1,hok2,⟨⟨k3,k4⟩,rfl⟩,rfl⟩
 rw [q5v]
 have m2:Hid (q5u b1=srt k9z (k2h l)):=⟨by rw [k3,h2.out]⟩
 have m2l:(q5u b1).length<=1000:=by rw [k3,q9y]; exact l2
 clear k3 h2 hok1
 rw [<-k2,<-k4]
 clear k2 k4 l1 l2 o1 o2
 repeat' (simp -dsimp -implicitDefEqProofs [*])
 refine q5h (hok2.callA fun st h=>CompEvent.compact_acc a1 (by omega) st h) ?_
 rintro e s ⟨a2,hok3,⟨k1,rfl⟩,rfl⟩
 rw [q5v]
 have m3:Hid (q5u a2=k90 l):=⟨by rw [k1,m1.out]; exact (k78 k9y _).symm⟩
 clear k1 m1 m1l hok2
 repeat' (simp -dsimp -implicitDefEqProofs [*])
 refine q5h (hok3.callB fun st h=>CompDecision.compact_acc b1 (by omega) st h) ?_
 rintro e s ⟨b2,hok4,⟨k1,rfl⟩,rfl⟩
 rw [q5v]
 have m4:Hid (q5u b2=k91 l):=⟨by rw [k1,m2.out]; exact (k78 k9z _).symm⟩
 clear k1 m2 m2l hok3
 repeat' (simp -dsimp -implicitDefEqProofs [*])
 refine RetView.accF (.tuple [.agg (c.row (q7n a2) (Decision.lst false (q5u b2))),.int 0]) hok4.ob (StLe.fresh hok4.ow) (fun e=>?_) (fun y e=>?_) ?_
 ·subst e
  exact PLeV.tuple2 (PLeV.aggs (PsLe.app (PsLe.refl _) ⟨.refl _,.nil1,trivial⟩)) (.refl _)
 ·subst e
  exact .tuple (.cons (.agg (Frzs.app (Frzs.refl _) (.cons (.refl _) (.cons (Frz.acc hok4.ob.1) .nil)))) (.cons (.refl _) .nil))
 refine RetView.accF (.tuple [.agg (c.row (Event.lst false (q5u a2)) (Decision.lst false (q5u b2))),.int 0]) hok4.oa (.refl _) (fun e=>?_) (fun y e=>?_) ?_
 ·subst e
  exact PLeV.tuple2 (PLeV.aggs (PsLe.app (PsLe.refl _) ⟨.nil1,.refl _,trivial⟩)) (.refl _)
 ·subst e
  exact .tuple (.cons (.agg (Frzs.app (Frzs.refl _) (.cons (Frz.acc hok4.oa.1) (.cons (.refl _) .nil)))) (.cons (.refl _) .nil))
 exact .same ⟨by rw [m3.out,m4.out],rfl⟩
open Go.Pv Go.Pv.Cd
set_option maxRecDepth 100000
set_option maxHeartbeats 8000000
theorem k37 (t u:Bool)(l:List Note)(hl:l.length<=100000)(st:q5c):Rets P F.q1e [Note.lst t l,Note.lst u l] st (.bool true):=by
 have hrl:=Note.row_len l
 refine H.q1e.view q5l rfl rfl ?_
 repeat' (simp -dsimp -implicitDefEqProofs [*])
 refine q5e (fun n:Nat=>[(0,Note.lst t l),(1,Note.lst u l),(5,.int n)]) (fun _=>st) (fun n=>n<=l.length) (fun n=>l.length-n) 0 (Nat.zero_le _) (by simp [*]) (.refl _) ?_
 rintro n hn
 by_cases hnl:n<l.length
 ·have hwr:=q5f (n:=n) (by omega)
  have g1:=Note.row_sub l n hnl
  repeat' (simp -dsimp -implicitDefEqProofs [*])
  exact Next.intro (n+1) (by omega) (by omega) (by simp) q5m
 ·obtain rfl:n=l.length:=by omega
  repeat' (simp -dsimp -implicitDefEqProofs [*])
  exact .same ⟨rfl,rfl⟩
theorem k93 (t u:Bool)(l:List Event)(hl:l.length<=100000)(st:q5c):Rets P F.q3q [Event.lst t l,Event.lst u l] st (.bool true):=by
 have hrl:=Event.row_len l
 refine H.q3q.view q5l rfl rfl ?_
 repeat' (simp -dsimp -implicitDefEqProofs [*])
 refine q5e (fun n:Nat=>[(0,Event.lst t l),(1,Event.lst u l),(5,.int n)]) (fun _=>st) (fun n=>n<=l.length) (fun n=>l.length-n) 0 (Nat.zero_le _) (by simp [*]) (.refl _) ?_
 rintro n hn
 by_cases hnl:n<l.length
 ·have hwr:=q5f (n:=n) (by omega)
  have g1:=Event.row_sub l n hnl
  repeat' (simp -dsimp -implicitDefEqProofs [*])
  exact Next.intro (n+1) (by omega) (by omega) (by simp) q5m
 ·obtain rfl:n=l.length:=by omega
  repeat' (simp -dsimp -implicitDefEqProofs [*])
  exact .same ⟨rfl,rfl⟩
theorem z0w (c:C44)(e:List Event)(d:List Decision)(he:e.length<=100000)(hd:d.length<=100000)(hc:∀ st,Rets P F.q0r [.agg c.l,.agg c.l] st (.bool true))(st:q5c) :
  Rets P F.q2o [.agg (c.row (Event.lst false e) (Decision.lst false d)),.agg (c.row (Event.lst false e) (Decision.lst false d))] st (.bool true):=by
 have hrl:=Decision.row_len d
 have hs:=fun st=>k93 false false e he st
 refine H.q2o.view q5l rfl rfl ?_
 repeat' (first 
  | (with_reducible refine Fresh.intro fun b hb=>?_) <;> (try simp -dsimp -implicitDefEqProofs [*] at hb)
  | (with_reducible refine Rets.xcall (hc _) ?_)
  | (with_reducible refine Rets.xcall (hs _) ?_)
  | (simp -dsimp -implicitDefEqProofs [*]))
 rename_i b1 hb1
 revert b; intro b2 hb2
 refine q5e (fun n:Nat=>[(2,.ptr b1 0),(3,.ptr b2 0),(5,.int n)]) (fun _=>(b2,.arr T.apiWorld (c.row (Event.lst false e) (Decision.lst false d)))::(b1,.arr T.apiWorld (c.row (Event.lst false e) (Decision.lst false d)))::st) (fun n=>n<=d.length) (fun n=>d.length-n) 0 (Nat.zero_le _) (by simp [*]) q5m ?_
 rintro n hnn
 by_cases hnl:n<d.length
 ·have hwr:=q5f (n:=n) (by omega)
  have g1:=Decision.row_sub d n hnl
  generalize d[n]=x at *
  repeat' (simp -dsimp -implicitDefEqProofs [*])
  exact Next.intro (n+1) (by omega) (by omega) (by simp) q5m
 ·obtain rfl:n=d.length:=by omega
  repeat' (simp -dsimp -implicitDefEqProofs [*])
  exact .drop (st':=st) q5m ⟨rfl,rfl⟩
end Go.Proofs.YtmlmoaimjifpgaaGreat
