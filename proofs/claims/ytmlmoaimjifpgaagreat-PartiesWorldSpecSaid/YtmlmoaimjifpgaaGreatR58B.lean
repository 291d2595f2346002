/- Learning, by the reference. -/
import Derived.Test.YtmlmoaimjifpgaaGreatO58A
import Derived.Test.YtmlmoaimjifpgaaGreatV58B
import Derived.Test.YtmlmoaimjifpgaaGreatLSw
import Derived.Test.YtmlmoaimjifpgaaGreatLCd
import Derived.Test.YtmlmoaimjifpgaaGreatN58G
import Derived.Test.YtmlmoaimjifpgaaGreatLAc
namespace Go.Proofs.YtmlmoaimjifpgaaGreat
open Go.Pv Go.Pv.Cd
set_option maxRecDepth 100000
set_option maxHeartbeats 8000000
theorem j1q:∀ l m:List Int,l.length=m.length->q52 (List.replicate l.length LK.int) (l.map PV.int) (m.map PV.int)=some (decide (l=m))
 | [],[],_=>rfl
 | [],_::_,h=>by simp at h
 | _::_,[],h=>by simp at h
 | a::l,b::m,h=>by
  have ih:=j1q l m (by simpa using h)
  show q52 (LK.int::List.replicate l.length LK.int) (PV.int a::l.map PV.int) (PV.int b::m.map PV.int)=_
  rw [z5e,ih]
  by_cases h1:a=b <;> by_cases h2:l=m <;> simp [h1,h2,y8s]
theorem j87 {x y:Note}(h:x.ints=y.ints):x=y:=by rw [<-k4p x,h,k4p]
@[simp] theorem Note.eqC (x y:Note):q52 [LK.int,LK.int,LK.int,LK.int,LK.int,LK.int,LK.int,LK.int,LK.int,LK.int,LK.int,LK.int,LK.int,LK.int,LK.int,LK.int,LK.int,LK.int,LK.int,LK.int,LK.int,LK.int,LK.int,LK.int] x.enc y.enc=some (decide (x=y)):=by
 rw [Note.enc_ints,Note.enc_ints]
 refine (j1q x.ints y.ints rfl).trans ?_
 by_cases h:x=y
 ·subst h; simp
 ·rw [decide_eq_false h,decide_eq_false fun e=>h (j87 e)]
theorem z6y (l:List Note)(i:Nat)(h:i<=l.length):Note.row (l.take i)=(Note.row l).take (i*24)/\Note.row (l.drop i)=(Note.row l).drop (i*24):=by
 have h1:(Note.row (l.take i)).length=i*24:=by simp; omega
 have e:Note.row l=Note.row (l.take i)++Note.row (l.drop i):=by rw [<-Note.row_append,List.take_append_drop]
 rw [e]
 exact⟨(List.take_left' h1).symm,(List.drop_left' h1).symm⟩
theorem z90 (l:List Note)(h:Rise q6v okN l)(hl:l.length<=1000)(x:Note)(hx:okN x)(st:q5c):Rets P F.q2y [Note.lst false l,x.pv] st (.tuple [Note.lst false (k6a q6v l x),.int 0]):=by
 have hrl:=Note.row_len l
 have hpos:=z8z (c:=q6v) l x
 have hspec:=k5m cmpN_ord h x
 obtain⟨p,hp⟩:∃ p,p=k9e q6v l x:=⟨_,rfl⟩
 have hlt:∀ i (hi:i<l.length),i<p->q6v l[i] x<0:=fun i hi hip=>hspec.1 _ (List.mem_take_iff_getElem.2 ⟨i,by omega,rfl⟩)
 have hge:∀ hi:p<l.length,¬ q6v l[p] x<0:=fun hi=>hspec.2 _ (by rw [<-hp]; exact List.mem_drop_iff_getElem.2 ⟨0,by omega,by simp⟩)
 have hat:=j5i cmpN_ord h (x:=x)
 rw [<-hp] at hat hpos
 have hput:k6a q6v l x=if x ∈ l then l else l.take p++x::l.drop p:=by unfold k6a; rw [<-hp]
 clear hspec hp
 have hok:=Hid.mk h.1
 have hx24:l.length*24-p*24=(l.length-p)*24:=by omega
 refine H.q2y.view q5l rfl rfl ?_
 repeat' (first 
  | (with_reducible refine Fresh.intro fun b hb=>?_) <;> (try simp -dsimp -implicitDefEqProofs [*] at hb)
  | (simp -dsimp -implicitDefEqProofs [*]))
 refine q5e (fun i:Nat=>[(3,.ptr b 0),(0,Note.lst false l),(6,.int i),(4,.nil),(5,.int 0)]) (fun _=>(b,.arr T.apiNote x.enc)::st) (fun i=>i<=p) (fun i=>p-i) 0 (Nat.zero_le _) (by simp) (.refl _) ?_
 intro i hi
 by_cases hip:i<p
 ·have hil:i<l.length:=by omega
  have hwi:=q5f (n:=i) (by omega)
  have bs:=fun st=>k4u l[i] x (hok.out _ (List.getElem_mem hil)) hx st
  have hsub:=Note.row_sub l i hil
  rw [decide_eq_true (hlt i hil hip)] at bs
  clear hlt hge hat hput
  generalize l[i]=y at *
  repeat' (first 
   | (with_reducible refine Rets.xcall (bs _) ?_)
   | (with_reducible refine DrawLate.intro [] ?_)
   | (simp -dsimp -implicitDefEqProofs [*]))
  exact Next.intro (i+1) (by omega) (by omega) (by simp) q5m
 obtain rfl:i=p:=by omega
 by_cases hil:i<l.length
 ·have bs:=fun st=>k4u l[i] x (hok.out _ (List.getElem_mem hil)) hx st
  have hsub:=Note.row_sub l i hil
  rw [decide_eq_false (hge hil)] at bs
  rw [List.getElem?_eq_getElem hil] at hat
  by_cases hy:l[i]=x
  ·have hin:x ∈ l:=hat.2 (by rw [hy])
   rw [if_pos hin] at hput
   rw [hput]
   clear hlt hge hat hput hin
   rw [hy] at hsub bs
   clear hy
   repeat' (first 
    | (with_reducible refine Rets.xcall (bs _) ?_)
    | (with_reducible refine DrawLate.intro [] ?_)
    | (simp -dsimp -implicitDefEqProofs [*]))
   exact RetView.drop (st':=st) q5m ⟨rfl,rfl⟩
  ·have hin:¬ x ∈ l:=fun h=>hy (by simpa using hat.1 h)
   rw [if_neg hin] at hput
   rw [hput]
   clear hlt hge hat hput hin
   generalize l[i]=y at *
   have h4:¬ (l.length:Int)=4096:=by omega
   repeat' (first 
    | (with_reducible refine Rets.xcall (bs _) ?_)
    | (with_reducible refine DrawLate.intro [] ?_)
    | (simp -dsimp -implicitDefEqProofs [-q5d, *]))
   have rt:=z6y l i hpos
   have lt:(l.take i).length=i:=by rw [List.length_take]; omega
   have ld:(l.drop i).length=l.length-i:=List.length_drop ..
   refine q51 (bytes:=192) Note.row_len Note.row_append (none:Option (Acc Note)) trivial (l.take i) rt.1 lt (by simp; omega) fun o ho hol=>?_
   refine q59 (q6h ho (Cls.self _ _)) ?_
   have kl:Hid (q5u o=l.take i):=⟨hol⟩
   have kll:Hid ((q5u o).length=i):=⟨by rw [hol]; exact lt⟩
   clear hol
   repeat' (simp -dsimp -implicitDefEqProofs [-q5d, *])
   refine q51 (bytes:=192) Note.row_len Note.row_append o ho [x] (by simp) rfl (by rw [kll.out]; omega) fun o2 ho2 hl2=>?_
   refine q59 (q6h ho2 (Cls.self _ _)) ?_
   have kl2:Hid (q5u o2=l.take i++[x]):=⟨by rw [hl2,kl.out]⟩
   have kll2:Hid ((q5u o2).length=i+1):=⟨by rw [hl2,List.length_append,kll.out]; rfl⟩
   clear hl2
   repeat' (simp -dsimp -implicitDefEqProofs [-q5d, *])
   refine q51 (bytes:=192) Note.row_len Note.row_append o2 ho2 (l.drop i) rt.2 ld (by rw [kll2.out]; omega) fun o3 ho3 hl3=>?_
   refine q59 (q6h ho3 (Cls.self _ _)) ?_
   have kl3:Hid (q5u o3=l.take i++x::l.drop i):=⟨by rw [hl3,kl2.out]; simp⟩
   clear hl3
   repeat' (simp -dsimp -implicitDefEqProofs [-q5d, *])
   exact RetView.accQ2 rfl ho3 (.drop q5m ⟨by rw [kl3.out],rfl⟩)
 ·have hin:¬ x ∈ l:=fun h=>by
   have:=hat.1 h
   rw [List.getElem?_eq_none (by omega)] at this
   cases this
  rw [if_neg hin] at hput
  rw [hput]
  clear hlt hge hat hput hin
  obtain rfl:i=l.length:=by omega
  have h4:¬ (l.length:Int)=4096:=by omega
  repeat' (first 
   | (with_reducible refine DrawLate.intro [] ?_)
   | (simp -dsimp -implicitDefEqProofs [-q5d, *]))
  have rt:=z6y l l.length hpos
  have lt:(l.take l.length).length=l.length:=by rw [List.length_take]; omega
  have ld:(l.drop l.length).length=l.length-l.length:=List.length_drop ..
  refine q51 (bytes:=192) Note.row_len Note.row_append (none:Option (Acc Note)) trivial (l.take l.length) rt.1 lt (by simp; omega) fun o ho hol=>?_
  refine q59 (q6h ho (Cls.self _ _)) ?_
  have kl:Hid (q5u o=l.take l.length):=⟨hol⟩
  have kll:Hid ((q5u o).length=l.length):=⟨by rw [hol]; exact lt⟩
  clear hol
  repeat' (simp -dsimp -implicitDefEqProofs [-q5d, *])
  refine q51 (bytes:=192) Note.row_len Note.row_append o ho [x] (by simp) rfl (by rw [kll.out]; omega) fun o2 ho2 hl2=>?_
  refine q59 (q6h ho2 (Cls.self _ _)) ?_
  have kl2:Hid (q5u o2=l.take l.length++[x]):=⟨by rw [hl2,kl.out]⟩
  have kll2:Hid ((q5u o2).length=l.length+1):=⟨by rw [hl2,List.length_append,kll.out]; rfl⟩
  clear hl2
  repeat' (simp -dsimp -implicitDefEqProofs [-q5d, *])
  refine q51 (bytes:=192) Note.row_len Note.row_append o2 ho2 (l.drop l.length) rt.2 (by rw [ld]; omega) (by rw [kll2.out]; omega) fun o3 ho3 hl3=>?_
  refine q59 (q6h ho3 (Cls.self _ _)) ?_
  have kl3:Hid (q5u o3=l.take l.length++x::l.drop l.length):=⟨by rw [hl3,kl2.out]; simp⟩
  clear hl3
  repeat' (simp -dsimp -implicitDefEqProofs [-q5d, *])
  exact RetView.accQ2 rfl ho3 (.drop q5m ⟨by rw [kl3.out]; simp,rfl⟩)
open Go.Pv Go.Pv.Cd
set_option maxRecDepth 100000
set_option maxHeartbeats 4000000
abbrev FN:={ n:Note // q5s n=true }
instance:Inhabited FN:=⟨⟨⟨1,⟨3,1,0,3,0,0,5,7,8⟩,zeroD⟩,by decide⟩⟩
def y2w (x:FN):List Value:=x.1.ints.map (Value.int .i64)
def cfF (x y:FN):Int:=q6v x.1 y.1
theorem j6c (x:FN):(y2w x).map PV.val=x.1.enc:=by
 rw [Note.enc_ints]
 unfold y2w
 rw [List.map_map]
 rfl
theorem y8b:Go.Sort.SWO (ltOf cfF) where
 irrefl x:=by
  unfold ltOf cfF
  rw [cmpN_ord.self]
  decide
 trans x y z h1 h2:=by
  unfold ltOf cfF at *
  rw [decide_eq_true_eq] at *
  exact cmpN_ord.trans _ _ _ h1 h2
 ntrans x y z h1 h2:=by
  unfold ltOf cfF at *
  rw [decide_eq_false_iff_not] at *
  intro h
  by_cases e:y.1=x.1
  ·rw [<-e] at h; exact h2 h
  ·exact h2 (cmpN_ord.trans _ _ _ (cmpN_ord.gt x.2 y.2 h1 (fun e2=>e e2.symm)) h)
theorem j88 (x y:FN):Rets P F.q09 [.agg ((y2w x).map PV.val),.agg ((y2w y).map PV.val)] [] (.int (cfF x y)):=by
 rw [j6c,j6c]
 exact k26 x.1 y.1 x.2 y.2 []
theorem y8c (l:List FN):(l.flatMap y2w).map PV.val=Note.row (l.map (·.1)):=by
 unfold Note.row
 rw [List.map_flatMap,List.flatMap_map]
 congr 1
theorem j3a (l:List FN)(hl:l.length<=100000)(b cap:Nat)(C:List PV)(st:q5c) :
  Does P F.q0k [.own b 0 l.length cap,.func (.func F.q09) [] []] ((b,.arr T.apiNote (Note.row (l.map (·.1))++C))::st) (.tuple []) ((b,.arr T.apiNote (Note.row ((k2i cfF l).map (·.1))++C))::st):=by
 have:=y2f (P:=P) y2w 24 cfF Tryz.sortN (f:=F.q0k) (g:=F.q09) rfl H.q0k.enters H.q09.enters Tryz.isAgg34 Tryz.sizeOf34 (fun x=>by unfold y2w; rw [List.length_map]; rfl)
  (fun x v hv=>by obtain⟨n, -,rfl⟩:=List.mem_map.1 hv; rfl) y8b j88 (T:=T.apiNote) (l:=l) (b:=b) (cap:=cap) (C:=C) (st:=st) (by omega)
 rw [y8c,y8c] at this
 exact this
open Go.Pv Go.Pv.Cd
set_option maxRecDepth 100000
set_option maxHeartbeats 400000
def j6d (b:List (BitVec 8)):Option FN:=match h:q8c b with
 | some n=>some ⟨n,(k5s h).1⟩
 | none=>none
theorem k6y {b:List (BitVec 8)}{n:Note}(h:q8c b=some n):j6d b=some ⟨n,(k5s h).1⟩:=by
 unfold j6d
 split
 ·rename_i m hm
  rw [h] at hm
  cases hm
  rfl
 ·rename_i hm
  rw [h] at hm
  cases hm
theorem j3b {b:List (BitVec 8)}(h:q8c b=none):j6d b=none:=by
 unfold j6d
 split
 ·rename_i m hm
  rw [h] at hm
  cases hm
 ·rfl
def k1d (L:List (List (BitVec 8))):List FN:=L.filterMap j6d
def z6z (L:List (List (BitVec 8))):List Note:=q8x eqD ((k2i cfF (k1d L)).map (·.1))
def k6z (L:List (List (BitVec 8))):Bool:=L.all fun b=>(q8c b).isSome
def k28 (L:List (List (BitVec 8))):List Note:=if k6z L then z6z L else []
def k4v (L:List (List (BitVec 8))):Int:=if k6z L then 0 else 580
theorem k9w (L:List (List (BitVec 8))):Rise q6v okN (z6z L)/\∀ x,x ∈ z6z L ↔ ∃ b ∈ L,q8c b=some x:=by
 unfold z6z
 obtain⟨h1,h2⟩:=k0c cfF y8b (k1d L)
 have h2':(k2i cfF (k1d L)).Pairwise fun x y=>¬ q6v y.1 x.1<0:=h2
 clear h2
 generalize k2i cfF (k1d L)=S at *
 have hp:(S.map (·.1)).Pairwise fun x y=>¬ q6v y x<0:=by
  rw [List.pairwise_map]
  exact h2'
 have ho:∀ x ∈ S.map (·.1),q5s x=true:=fun x hx=>by
  obtain⟨y, -,rfl⟩:=List.mem_map.1 hx
  exact y.2
 have H0:=j5m cmpN_ord ho hp
 obtain⟨h3,h4⟩:=H0
 refine⟨h3,fun x=>?_⟩
 rw [h4,List.mem_map]
 constructor
 ·rintro⟨y,hy,rfl⟩
  obtain⟨b,hb,e⟩:=List.mem_filterMap.1 (h1.mem_iff.1 hy)
  refine⟨b,hb, ?_⟩
  cases hr:q8c b with
  | none=>rw [j3b hr] at e; cases e
  | some n=>rw [k6y hr] at e; cases e; rfl
 ·rintro⟨b,hb,e⟩
  exact⟨⟨x,(k5s e).1⟩,h1.mem_iff.2 (List.mem_filterMap.2 ⟨b,hb,k6y e⟩),rfl⟩
open Go.Pv
set_option maxRecDepth 100000
set_option maxHeartbeats 8000000
namespace CompNote
abbrev eqB (x y:Note):Bool:=decide (x=y)
abbrev rowO (l:List Note)(C:List PV):PObj:=.arr T.apiNote (Note.row l++C)
def CompQ (l:List Note)(b cap:Nat)(st:q5c)(e:PEnd)(s:q5c):Prop:=∃ R,(Note.row (q8x eqB l)++R).length=cap*24/\e=.ret (.own b 0 (q8x eqB l).length cap)/\s=(b,.arr T.apiNote (Note.row (q8x eqB l)++R))::st
@[simp] theorem own_sub {l:List Note}{i:Nat}{C:List PV}(h:i<l.length):sub (Note.row l++C) (i*24) 24=some (l[i]).enc:=Go.Pv.own_sub Note.len h
@[simp] theorem own_set {l:List Note}{i:Nat}{x:Note}{C:List PV}(h:i<l.length):q5g (Note.row l++C) (i*24) x.enc=Note.row (l.set i x)++C:=Go.Pv.own_set Note.len h
theorem cmpB_few {l:List Note}(h:l.length<2):q8x eqB l=l:=by
 match l,h with
 | [],_=>rfl
 | [_],_=>rfl
 | _::_::_,h=>simp at h; omega
theorem clear_ret {c:PV->PEnd}{p:PV}{b:Nat}{T:TypeId}{st:q5c}{Q:PEnd->q5c->Prop}(m:List Note)(C:List PV)(w cap:Nat)(hw:w<=m.length)(hC:(Note.row m++C).length=cap*24)
  (h:∀ R,(Note.row (m.take w)++R).length=cap*24->RetView c p ((b,.arr T (Note.row (m.take w)++R))::st) Q) (Z:List PV):RetView c p ((b,.arr T (q5g (Note.row m++C) (w*24) Z))::st) Q:=by
 have h1:Note.row m++C=Note.row (m.take w)++(Note.row (m.drop w)++C):=by rw [<-List.append_assoc,<-Note.row_append,List.take_append_drop]
 have h2:(Note.row (m.take w)).length=w*24:=by rw [Note.row_len,List.length_take]; omega
 have h3:q5g (Note.row m++C) (w*24) Z=Note.row (m.take w)++q5g (Note.row (m.drop w)++C) 0 Z:=by
  rw [h1,<-h2]
  exact q5t Z _ _ 0
 rw [h3]
 refine h _ ?_
 rw [List.length_append,q7p,<-List.length_append,<-h1,hC]
theorem compact_spec {l:List Note}{C:List PV}{b cap N:Nat}(hN:l.length=N)(hN2:N<=100000)(hcap:N<=cap/\cap<=9223372036854775807)(hC:(Note.row l++C).length=cap*24)(st:q5c) :
  PCalls P F.q0o [.own b 0 N cap] ((b,rowO l C)::st) (CompQ l b cap st):=by
 have hrl:=Note.row_len l
 refine H.q0o.view q5l rfl rfl ?_
 by_cases h2:N<2
 ·have e:q8x eqB l=l:=cmpB_few (by omega)
  have h3:(N:Int)<2:=by omega
  repeat' (simp -dsimp -implicitDefEqProofs [*])
  exact .same ⟨C,by rw [e]; exact hC,by rw [e,hN],by rw [e]⟩
 have h3:¬ (N:Int)<2:=by omega
 repeat' (simp -dsimp -implicitDefEqProofs [*])
 refine q5e (fun i:Nat=>[(0,.own b 0 N cap),(3,.int i)]) (fun _=>(b,rowO l C)::st) (fun i=>(1<=i/\i<=N)/\Hid (q8x eqB (l.take i)=l.take i)) (fun i=>N-i) 1 ⟨⟨Nat.le_refl _,by omega⟩,⟨z3t eqB l⟩⟩ (by simp) (.refl _) ?_
 rintro i ⟨⟨hi1,hi⟩,hI⟩
 by_cases hin:i<N
 case neg=>
  obtain rfl:i=N:=by omega
  have e:q8x eqB l=l:=by
   have:=hI.out
   rwa [List.take_of_length_le (by omega)] at this
  clear hI
  repeat' (simp -dsimp -implicitDefEqProofs [*])
  exact .same ⟨C,by rw [e]; exact hC,by rw [e,hN],by rw [e]⟩
 have hil:i<l.length:=by omega
 have hil1:i-1<l.length:=by omega
 have hwi:=q5f (n:=i) (by omega)
 have hwm:IntKind.i64.wrap ((i:Int)-1)=((i-1:Nat):Int):=by rw [q5i (by omega) (by omega)]; omega
 have st1:=k21 eqB l (i-1) (by omega)
 have ei:i-1+1=i:=by omega
 have ei2:i-1+2=i+1:=by omega
 simp only [ei,ei2] at st1
 have g1:=own_sub (C:=C) hil
 have g2:=own_sub (C:=C) hil1
 skip
 by_cases hk:eqB l[i] l[i-1]=true
 case neg=>
  rw [if_neg hk] at st1
  have nx:Hid (q8x eqB (l.take (i+1))=l.take (i+1)):=⟨by rw [st1,hI.out,List.take_succ_eq_append_getElem hil]⟩
  clear st1 hI
  skip
  repeat' (first 
   | ((with_reducible refine q5r ?_ fun hk=>?_); omega)
   | (simp -dsimp -implicitDefEqProofs [*]))
  exact Next.intro (i+1) ⟨⟨by omega,by omega⟩,nx⟩ (by omega) (by simp) q5m
 rw [if_pos hk,List.append_nil] at st1
 have nx:Hid (Cmp2 eqB l (i+1) i l):=⟨Cmp2.start hI.out (by omega) hi1 (by rw [st1,hI.out])⟩
 clear st1 hI
 skip
 repeat' (first 
  | (with_reducible refine And.intro (fun h=>?_) (fun h=>?_)) <;> (try (exfalso; omega))
  | ((with_reducible refine q5r ?_ fun hk=>?_); omega)
  | (simp -dsimp -implicitDefEqProofs [*]))
 clear g1 g2
 refine q5e (σ:=Nat × Nat × List Note) (fun x=>[(0,.own b 0 N cap),(3,.int (x.2.1:Nat)),(4,.own b (i*24) (N-i) (cap-i)),(5,.int (x.1:Nat))]) (fun x=>(b,rowO x.2.2 C)::st) (fun x=>(1<=x.1/\i+x.1<=N)/\Hid (Cmp2 eqB l (i+x.1) x.2.1 x.2.2)) (fun x=>N-i-x.1) (1,i,l) ⟨⟨Nat.le_refl _,by simp only; omega⟩,nx⟩ (by simp) (.refl _) ?_
 rintro⟨k,w,m⟩ ⟨⟨hk1,hk2⟩,hI⟩
 simp only at hk1 hk2 hI
 have hlt:=hI.out.lt
 have hml:=hI.out.len
 have hmr:(Note.row m++C).length=cap*24:=by rw [List.length_append,Note.row_len,hml,<-Note.row_len,<-List.length_append,hC]
 by_cases hkn:i+k<N
 case neg=>
  have hdone:Hid (m.take w=q8x eqB l):=⟨by rw [hI.out.done,List.take_of_length_le (by omega)]⟩
  have hwl:Hid ((q8x eqB l).length=w):=⟨by rw [<-hdone.out,List.length_take]; omega⟩
  clear hI nx
  have hkk:¬ (k:Int)<(N-i:Nat):=by omega
  have hwN:w<=N:=by omega
  have hwc:w<=cap:=by omega
  have hb2:w*24+(N-w)*24<=cap*24:=by omega
  repeat' (first 
   | (with_reducible refine And.intro (fun h=>?_) (fun h=>?_)) <;> (try (exfalso; omega))
   | (simp -dsimp -implicitDefEqProofs [*]))
  refine clear_ret m C w cap (by omega) hmr (fun R hR=>?_) _
  exact .same ⟨R,by rw [<-hdone.out]; exact hR,by rw [hwl.out],by rw [<-hdone.out]⟩
 obtain⟨j,hj⟩:∃ j,i+k=j+1:=⟨i+k-1,by omega⟩
 have hjl:j+1<l.length:=by omega
 have hwk:=q5f (n:=k) (by omega)
 have hww:=q5f (n:=w) (by omega)
 have hwm2:IntKind.i64.wrap ((k:Int)-1)=((k-1:Nat):Int):=by rw [q5i (by omega) (by omega)]; omega
 have a1:m[j+1]?=some l[j+1]:=hI.out.rest (j+1) hjl (by omega)
 have a2:m[j]?=some l[j]:=hI.out.rest j (by omega) (by omega)
 have b1:j+1<m.length:=by omega
 have b2:j<m.length:=by omega
 rw [List.getElem?_eq_getElem b1,Option.some.injEq] at a1
 rw [List.getElem?_eq_getElem b2,Option.some.injEq] at a2
 have g3:sub (Note.row m++C) (i*24+k*24) 24=some (l[j+1]).enc:=by rw [show i*24+k*24=(j+1)*24 by omega,<-a1]; exact own_sub b1
 have g4:sub (Note.row m++C) (i*24+(k-1)*24) 24=some (l[j]).enc:=by rw [show i*24+(k-1)*24=j*24 by omega,<-a2]; exact own_sub b2
 clear a1 a2
 have g5:∀ x:Note,q5g (Note.row m++C) (w*24) x.enc=Note.row (m.set w x)++C:=fun x=>own_set (by omega)
 have hkk:(k:Int)<(N-i:Nat):=by omega
 have hkc:i*24+k*24+24<=cap*24:=by omega
 rw [hj] at hI
 skip
 by_cases hq:eqB l[j+1] l[j]=true
 case pos=>
  have nx2:Hid (Cmp2 eqB l (i+(k+1)) w m):=⟨by rw [show i+(k+1)=j+2 by omega]; exact hI.out.same hjl hq⟩
  clear hI nx
  skip
  generalize l[j+1]=x at *
  generalize l[j]=y at *
  repeat' (first 
   | ((with_reducible refine q5r ?_ fun hk=>?_); omega)
   | (simp -dsimp -implicitDefEqProofs [*]))
  exact Next.intro (k+1,w,m) ⟨⟨by simp only; omega,by simp only; omega⟩,nx2⟩ (by simp only; omega) (by simp) q5m
 have nx2:Hid (Cmp2 eqB l (i+(k+1)) (w+1) (m.set w l[j+1])):=⟨by rw [show i+(k+1)=j+2 by omega]; exact hI.out.keep hjl (by simpa using hq)⟩
 clear hI nx
 skip
 generalize l[j+1]=x at *
 generalize l[j]=y at *
 repeat' (first 
  | ((with_reducible refine q5r ?_ fun hk=>?_); omega)
  | (simp -dsimp -implicitDefEqProofs [*]))
 exact Next.intro (k+1,w+1,m.set w x) ⟨⟨by simp only; omega,by simp only; omega⟩,nx2⟩ (by simp only; omega) (by simp) q5m
theorem compact0 (st:q5c):Rets P F.q0o [.nil] st .nil:=by
 refine H.q0o.view q5l rfl rfl ?_
 repeat' (simp -dsimp -implicitDefEqProofs [*])
 exact .same ⟨rfl,rfl⟩
theorem acc_row {a:Acc Note}(h:a.Ok Note.row 24):∃ C,a.R=Note.row a.l++C/\(Note.row a.l++C).length=a.cap*24:=
 ⟨a.R.drop (a.l.length*24),by rw [<-h.row,List.take_append_drop],by rw [<-h.row,List.take_append_drop,h.len]⟩
theorem ok_of {l:List Note}{C:List PV}{b cap:Nat}(h1:l.length<=cap)(h2:cap<=9223372036854775807)(h3:(Note.row l++C).length=cap*24):Acc.Ok Note.row 24 ⟨l,b,cap,Note.row l++C⟩:=
 ⟨h1,h2,h3,by rw [<-Note.row_len]; exact List.take_left⟩
theorem compact_acc (o:Option (Acc Note))(hl:(q5u o).length<=100000)(st:q5c)(ho:accOk Note.row 24 st o) :
  PCalls P F.q0o [q7n o] (q6c T.apiNote st o) fun e s=>∃ o',accOk Note.row 24 st o'/\(q5u o'=q8x eqB (q5u o)/\e=.ret (q7n o'))/\s=q6c T.apiNote st o':=by
 cases o with
 | none=>exact PCalls.mono (compact0 st) fun e s ⟨h1,h2⟩=>⟨none,trivial,⟨rfl,h1⟩,h2⟩
 | some a=>
  obtain⟨ha,hb⟩:=ho
  obtain⟨C,h1,h2⟩:=acc_row ha
  have:=compact_spec (b:=a.b) (cap:=a.cap) (N:=a.l.length) rfl hl ⟨ha.le,ha.cap⟩ h2 st
  simp only [q65,q5y,q7e] at *
  rw [h1]
  refine PCalls.mono this fun e s ⟨R,k1,k2,k3⟩=>⟨some ⟨q8x eqB a.l,a.b,a.cap,Note.row (q8x eqB a.l)++R⟩,⟨ok_of (Nat.le_trans (k5n eqB a.l) ha.le) ha.cap k1,hb⟩,⟨rfl,k2⟩,k3⟩
end CompNote
end Go.Proofs.YtmlmoaimjifpgaaGreat
