/- Sorting Events: whole. -/
import Derived.Test.YtmlmoaimjifpgaaGreatT58I
import Derived.Test.YtmlmoaimjifpgaaGreatLCd
import Derived.Test.YtmlmoaimjifpgaaGreatLAc
import Derived.Test.YtmlmoaimjifpgaaGreatS58A
namespace Go.Proofs.YtmlmoaimjifpgaaGreat
open Go.Pv
set_option maxRecDepth 100000
set_option maxHeartbeats 4000000
namespace SortEvent
def Full (bs:Nat)(Ds:List (List Event)):Prop:=∀ c ∈ Ds,c.length=bs/\Srtd key c
theorem Full.snoc {bs:Nat}{Ds:List (List Event)}{c:List Event}(h:Full bs Ds)(h1:c.length=bs)(h2:Srtd key c):Full bs (Ds++[c]):=fun d hd=>by
 rcases List.mem_append.1 hd with hd | hd
 ·exact h d hd
 ·simp at hd; subst hd; exact⟨h1,h2⟩
theorem Full.len {bs:Nat}:∀ {Ds:List (List Event)},Full bs Ds->Ds.flatten.length=Ds.length*bs
 | [],_=>by simp
 | c::Ds,h=>by
  have h1:=Full.len (Ds:=Ds) fun d hd=>h d (by simp [hd])
  rw [List.flatten_cons,List.length_append,h1,(h c (by simp)).1,List.length_cons,Nat.succ_mul]; omega
def Beg (l:List Event)(a:Nat)(l':List Event):Prop:=∃ Ds,Full 20 Ds/\l'=Ds.flatten++l.drop a/\Stb key (l.take a) Ds.flatten/\Ds.flatten.length=a
def CutS (bs:Nat)(l l':List Event):Prop:=∃ Cs last,l'=Cs.flatten++last/\Full bs Cs/\Srtd key last/\last.length<bs/\Stb key l l'
def MidS (bs:Nat)(l:List Event)(a:Nat)(l':List Event):Prop:=∃ Ds Cs last,l'=Ds.flatten++(Cs.flatten++last)/\Full (2*bs) Ds/\Full bs Cs/\Srtd key last/\last.length<bs/\Stb key l l'/\Ds.flatten.length=a
theorem Beg.step {l l':List Event}{a:Nat}(h:Beg l a l')(ha:a+20<=l.length):∃ X L Y l3,l'=X++L++Y/\l3=X++srt key L++Y/\X.length=a/\a+L.length=a+20/\l3.length=l'.length/\Beg l (a+20) l3:=by
 obtain⟨Ds,h1,h2,h3,h4⟩:=h
 have e:l.drop a=(l.drop a).take 20++l.drop (a+20):=by rw [<-List.drop_drop,List.take_append_drop]
 have hl:((l.drop a).take 20).length=20:=by simp; omega
 refine⟨Ds.flatten,(l.drop a).take 20,l.drop (a+20),_,by rw [h2,List.append_assoc,<-e],rfl,h4,by omega, ?_,Ds++[srt key ((l.drop a).take 20)],h1.snoc (by simpa using hl) (q7d _),by simp, ?_,by rw [List.flatten_append,List.length_append,h4]; simp; omega⟩
 ·rw [h2]; simp; omega
 ·rw [List.take_add,List.flatten_append]
  exact h3.app (by simpa using q8m _)
theorem Beg.fin {l l':List Event}{a:Nat}(h:Beg l a l')(ha:l.length<a+20)(ha2:a<=l.length):∃ X L Y l3,l'=X++L++Y/\l3=X++srt key L++Y/\X.length=a/\a+L.length=l.length/\l3.length=l'.length/\CutS 20 l l3:=by
 obtain⟨Ds,h1,h2,h3,h4⟩:=h
 refine⟨Ds.flatten,l.drop a,[],Ds.flatten++srt key (l.drop a),by simp [h2],by simp,h4,by simp; omega,by rw [h2]; simp,Ds,srt key (l.drop a),rfl,h1,q7d _,by simp; omega, ?_⟩
 have:=h3.app (q8m (key:=key) (l.drop a))
 rwa [List.take_append_drop] at this
theorem CutS.mid {bs:Nat}{l l':List Event}(h:CutS bs l l'):MidS bs l 0 l':=by
 obtain⟨Cs,last,h1,h2,h3,h4,h5⟩:=h
 exact⟨[],Cs,last,by simpa using h1,by simp [Full],h2,h3,h4,h5,rfl⟩
theorem MidS.step {bs:Nat}{l l':List Event}{a:Nat}(h:MidS bs l a l')(hb:0<bs)(ha:a+2*bs<=l'.length):∃ l3,MrgD l' l3 a (a+bs) (a+2*bs)/\l3.length=l'.length/\MidS bs l (a+2*bs) l3:=by
 obtain⟨Ds,Cs,last,h1,h2,h3,h4,h5,h6,h7⟩:=h
 have hlen:=congrArg List.length h1
 rw [List.length_append,List.length_append,h3.len,h7] at hlen
 rcases Cs with _ |⟨c1,_ |⟨c2,Cs⟩⟩
 ·simp at hlen; omega
 ·simp at hlen; omega
 obtain⟨l1,s1⟩:=h3 c1 (by simp)
 obtain⟨l2,s2⟩:=h3 c2 (by simp)
 have e1:l'=Ds.flatten++c1++c2++(Cs.flatten++last):=by rw [h1]; simp
 refine⟨Ds.flatten++srt key (c1++c2)++(Cs.flatten++last),⟨Ds.flatten,c1,c2,Cs.flatten++last,e1,rfl,h7,by omega,by omega,by omega,by omega,s1,s2⟩,by rw [e1]; simp; omega,
  Ds++[srt key (c1++c2)],Cs,last,by simp,h2.snoc (by simp; omega) (q7d _),fun c hc=>h3 c (by simp [hc]),h4,h5, ?_,by rw [List.flatten_append,List.length_append,h7]; simp; omega⟩
 refine h6.trans ?_
 rw [e1,List.append_assoc Ds.flatten c1 c2]
 exact Stb.app (Stb.app (.refl _) (q8m _)) (.refl _)
theorem MidS.fin {bs:Nat}{l l':List Event}{a:Nat}(h:MidS bs l a l')(hb:0<bs)(ha:l'.length<a+2*bs):(a+bs<l'.length->∃ l3,MrgD l' l3 a (a+bs) l'.length/\l3.length=l'.length/\CutS (2*bs) l l3)/\(l'.length<=a+bs->CutS (2*bs) l l'):=by
 obtain⟨Ds,Cs,last,h1,h2,h3,h4,h5,h6,h7⟩:=h
 have hlen:=congrArg List.length h1
 rw [List.length_append,List.length_append,h3.len,h7] at hlen
 rcases Cs with _ |⟨c1,_ |⟨c2,Cs⟩⟩
 ·simp at hlen
  exact⟨fun h=>by omega,fun h=>⟨Ds,last,by simpa using h1,h2,h4,by omega,h6⟩⟩
 ·simp at hlen
  obtain⟨l1,s1⟩:=h3 c1 (by simp)
  have e1:l'=Ds.flatten++c1++last++[]:=by rw [h1]; simp
  constructor
  ·intro h
   refine⟨Ds.flatten++srt key (c1++last)++[],⟨Ds.flatten,c1,last,[],e1,rfl,h7,by omega,by omega,by omega,by omega,s1,h4⟩,by rw [e1]; simp,Ds,srt key (c1++last),by simp,h2,q7d _,by simp; omega, ?_⟩
   refine h6.trans ?_
   rw [e1,List.append_assoc Ds.flatten c1 last]
   exact Stb.app (Stb.app (.refl _) (q8m _)) (.refl _)
  ·intro h
   have:last=[]:=List.length_eq_zero_iff.1 (by omega)
   subst this
   exact⟨Ds,c1,by rw [h1]; simp,h2,s1,by omega,h6⟩
 ·have:(Cs.length+1+1)*bs=Cs.length*bs+bs+bs:=by rw [Nat.succ_mul,Nat.succ_mul]
  simp at hlen; omega
theorem CutS.fin {bs:Nat}{l l':List Event}(h:CutS bs l l')(hb:l'.length<=bs)(hb0:0<bs):l'=srt key l:=by
 obtain⟨Cs,last,h1,h2,h3,h4,h5⟩:=h
 refine k2b ?_ h5
 have hlen:=congrArg List.length h1
 rw [List.length_append,h2.len] at hlen
 rcases Cs with _ |⟨c1,_ |⟨c2,Cs⟩⟩
 ·rw [h1]; simpa using h3
 ·simp at hlen
  have:last=[]:=List.length_eq_zero_iff.1 (by omega)
  subst this
  rw [h1]
  simpa using (h2 c1 (by simp)).2
 ·have:(Cs.length+1+1)*bs=Cs.length*bs+bs+bs:=by rw [Nat.succ_mul,Nat.succ_mul]
  simp at hlen; omega
theorem stable_spec {l:List Event}{C:List PV}{b cap N:Nat}(hN:l.length=N)(hN2:N<=100000)(st:q5f) :
  Does P F.q0y [.own b 0 N cap,.int (N:Nat),cmpF] ((b,rowO l C)::st) (.tuple []) ((b,rowO (srt key l) C)::st):=by
 refine H.q0y.view q5n rfl rfl ?_
 repeat' (simp -dsimp -implicitDefEqProofs [*])
 refine q5h (fun s:(Nat × Nat) × List Event=>[(0,.own b 0 N cap),(1,.int (N:Nat)),(2,cmpF),(6,.int 20),(7,.int (s.1.1:Nat)),(8,.int (s.1.2:Nat))]) (fun s=>(b,rowO s.2 C)::st)
  (fun s=>s.1.1<=N/\s.1.2=s.1.1+20/\s.2.length=N/\Beg l s.1.1 s.2) (fun s=>N-s.1.1) ((0,20),l) ⟨Nat.zero_le _,rfl,hN,[],by simp [Full],by simp,by simp [Stb],rfl⟩ (by simp) (by simp) ?_
 rintro⟨⟨a,z⟩,l'⟩ ⟨ha,hz,hlen',hB⟩
 simp only at ha hz hlen' hB
 by_cases haz:z<=N
 ·obtain⟨X,L,Y,l3,e1,e2,e3,e4,e5,e6⟩:=hB.step (by omega)
  rw [hlen'] at e5
  rw [<-hz] at e4 e6
  have hs:=insertion_spec (C:=C) (b:=b) (cap:=cap) hlen' hN2 e1 e2 e3 e4 st
  obtain⟨z2,hz2⟩:∃ z2,z2=z+20:=⟨_,rfl⟩
  have hwz:IntKind.i64.wrap ((z:Int)+20)=(z2:Int):=by rw [q5l (by omega) (by omega)]; omega
  have haz2:a<z:=by omega
  have hH:Hid (z2=z+20):=⟨hz2⟩
  clear e1 e2 e3 e4 hz hz2 hN hB
  repeat' (first 
   | (with_reducible refine Does.xcall (hs) ?_)
   | (simp -dsimp -implicitDefEqProofs [*]))
  exact Next.intro ((z,z2),l3) ⟨haz,hH.out,e5,e6⟩ (by simp only; omega) (by simp) q5o
 obtain⟨X,L,Y,l3,e1,e2,e3,e4,e5,e6⟩:=hB.fin (by omega) (by omega)
 rw [hlen'] at e5
 rw [hN] at e4
 have hs:=insertion_spec (C:=C) (b:=b) (cap:=cap) hlen' hN2 e1 e2 e3 e4 st
 clear e1 e2 e3 e4 hz hB
 repeat' (first 
  | (with_reducible refine Does.xcall (hs) ?_)
  | (simp -dsimp -implicitDefEqProofs [*]))
 refine q5h (fun s:Nat × List Event=>[(0,.own b 0 N cap),(1,.int (N:Nat)),(2,cmpF),(6,.int (s.1:Nat))]) (fun s=>(b,rowO s.2 C)::st)
  (fun s=>20<=s.1/\s.1<=2*N+20/\s.2.length=N/\CutS s.1 l s.2) (fun s=>N-s.1) (20,l3) ⟨Nat.le_refl _,by simp only; omega,e5,e6⟩ (by simp) (by simp) ?_
 clear hs e5 e6 hlen' haz ha
 rintro⟨bs,l4⟩ ⟨hbs,hbs2,hl4,hC⟩
 simp only at hbs hbs2 hl4 hC
 by_cases hbN:bs<N
 ·obtain⟨b2,hb2⟩:∃ b2,b2=2*bs:=⟨_,rfl⟩
  have hwb:IntKind.i64.wrap (2*(bs:Int))=(b2:Int):=by rw [q5l (by omega) (by omega)]; omega
  have hwb2:IntKind.i64.wrap ((bs:Int)*2)=(b2:Int):=by rw [q5l (by omega) (by omega)]; omega
  have hM:=hC.mid
  have hH2:Hid (b2=2*bs):=⟨hb2⟩
  clear hb2 hC
  repeat' (simp -dsimp -implicitDefEqProofs [*])
  refine q5h (fun s:(Nat × Nat) × List Event=>[(0,.own b 0 N cap),(1,.int (N:Nat)),(2,cmpF),(6,.int (bs:Nat)),(7,.int (s.1.1:Nat)),(8,.int (s.1.2:Nat))]) (fun s=>(b,rowO s.2 C)::st)
   (fun s=>s.1.1<=N/\s.1.2=s.1.1+2*bs/\s.2.length=N/\MidS bs l s.1.1 s.2) (fun s=>N-s.1.1) ((0,b2),l4) ⟨Nat.zero_le _,by simp only; have:=hH2.out; omega,hl4,hM⟩ (by simp) (by simp) ?_
  clear hM hl4
  rintro⟨⟨a,z⟩,l5⟩ ⟨ha,hz,hl5,hM⟩
  simp only at ha hz hl5 hM
  by_cases haz:z<=N
  ·obtain⟨l6,m1,m2,m3⟩:=hM.step (by omega) (by omega)
   obtain⟨m,hm⟩:∃ m,m=a+bs:=⟨_,rfl⟩
   obtain⟨z2,hz2⟩:∃ z2,z2=z+b2:=⟨_,rfl⟩
   have hwm:IntKind.i64.wrap ((a:Int)+bs)=(m:Int):=by rw [q5l (by omega) (by omega)]; omega
   have hH2':=hH2.out
   have hwz:IntKind.i64.wrap ((z:Int)+b2)=(z2:Int):=by rw [q5l (by omega) (by omega)]; omega
   rw [<-hm,<-hz] at m1
   rw [<-hz] at m3
   have hs:=symMerge_spec (C:=C) (b:=b) (cap:=cap) hN2 st (z-a) (Nat.le_refl _) hl5 m1
   rw [hl5] at m2
   have haz2:Hid (a<z/\z2=z+2*bs):=⟨by omega,by omega⟩
   clear m1 hz hz2 hm hM hH2'
   repeat' (first 
    | (with_reducible refine Does.xcall (hs) ?_)
    | (simp -dsimp -implicitDefEqProofs [*]))
   exact Next.intro ((z,z2),l6) ⟨haz,haz2.out.2,m2,m3⟩ (by have:=haz2.out; simp only; omega) (by simp) q5o
  obtain⟨f1,f2⟩:=hM.fin (by omega) (by omega)
  obtain⟨m,hm⟩:∃ m,m=a+bs:=⟨_,rfl⟩
  have hwm:IntKind.i64.wrap ((a:Int)+bs)=(m:Int):=by rw [q5l (by omega) (by omega)]; omega
  rw [<-hm,hl5] at f1 f2
  by_cases hmN:m<N
  ·obtain⟨l6,m1,m2,m3⟩:=f1 hmN
   have hs:=symMerge_spec (C:=C) (b:=b) (cap:=cap) hN2 st (N-a) (Nat.le_refl _) hl5 m1
   have m3':Hid (CutS b2 l l6/\20<=b2/\b2<=2*N+20/\bs<b2):=⟨by rw [hH2.out]; exact m3,by have:=hH2.out; omega,by have:=hH2.out; omega,by have:=hH2.out; omega⟩
   clear m1 m3 f1 f2 hz hm hM
   repeat' (first 
    | (with_reducible refine Does.xcall (hs) ?_)
    | (simp -dsimp -implicitDefEqProofs [*]))
   exact Next.intro (b2,l6) ⟨m3'.out.2.1,m3'.out.2.2.1,m2,m3'.out.1⟩ (by have:=m3'.out; simp only; omega) (by simp) q5o
  ·have m3':Hid (CutS b2 l l5/\20<=b2/\b2<=2*N+20/\bs<b2):=⟨by rw [hH2.out]; exact f2 (by omega),by have:=hH2.out; omega,by have:=hH2.out; omega,by have:=hH2.out; omega⟩
   clear f1 f2 hz hm hM
   repeat' (simp -dsimp -implicitDefEqProofs [*])
   exact Next.intro (b2,l5) ⟨m3'.out.2.1,m3'.out.2.2.1,hl5,m3'.out.1⟩ (by have:=m3'.out; simp only; omega) (by simp) q5o
 ·have e:l4=srt key l:=hC.fin (by omega) (by omega)
  clear hC
  repeat' (simp -dsimp -implicitDefEqProofs [*])
  exact .drop (StLe.refl _) ⟨rfl,rfl⟩
end SortEvent
open Go.Pv
set_option maxRecDepth 100000
set_option maxHeartbeats 8000000
namespace CompEvent
abbrev key (e:Event):Int:=e.no
abbrev eqB (x y:Event):Bool:=decide (key x=key y)
abbrev eqF:PV:=.func (.func F.q3e) [] []
theorem eq_spec (x y:Event)(st:q5f):Rets P F.q3e [x.pv,y.pv] st (.bool (eqB x y)):=by
 refine H.q3e.pure q5n rfl rfl ?_
 repeat' (first 
  | (with_reducible refine Fresh.intro fun b hb=>?_) <;> (try simp -dsimp -implicitDefEqProofs [*] at hb)
  | (simp -dsimp -implicitDefEqProofs [*]))
abbrev rowO (l:List Event)(C:List PV):PObj:=.arr T.apiEvent (Event.row l++C)
def CompQ (l:List Event)(b cap:Nat)(st:q5f)(e:PEnd)(s:q5f):Prop:=∃ R,(Event.row (q9m eqB l)++R).length=cap*9/\e=.ret (.own b 0 (q9m eqB l).length cap)/\s=(b,.arr T.apiEvent (Event.row (q9m eqB l)++R))::st
@[simp] theorem own_sub {l:List Event}{i:Nat}{C:List PV}(h:i<l.length):sub (Event.row l++C) (i*9) 9=some (l[i]).enc:=Go.Pv.own_sub Event.len h
@[simp] theorem own_set {l:List Event}{i:Nat}{x:Event}{C:List PV}(h:i<l.length):q5j (Event.row l++C) (i*9) x.enc=Event.row (l.set i x)++C:=Go.Pv.own_set Event.len h
theorem cmpB_few {l:List Event}(h:l.length<2):q9m eqB l=l:=by
 match l,h with
 | [],_=>rfl
 | [_],_=>rfl
 | _::_::_,h=>simp at h; omega
theorem clear_ret {c:PV->PEnd}{p:PV}{b:Nat}{T:TypeId}{st:q5f}{Q:PEnd->q5f->Prop}(m:List Event)(C:List PV)(w cap:Nat)(hw:w<=m.length)(hC:(Event.row m++C).length=cap*9)
  (h:∀ R,(Event.row (m.take w)++R).length=cap*9->RetView c p ((b,.arr T (Event.row (m.take w)++R))::st) Q) (Z:List PV):RetView c p ((b,.arr T (q5j (Event.row m++C) (w*9) Z))::st) Q:=by
 have h1:Event.row m++C=Event.row (m.take w)++(Event.row (m.drop w)++C):=by rw [<-List.append_assoc,<-Event.row_append,List.take_append_drop]
 have h2:(Event.row (m.take w)).length=w*9:=by rw [Event.row_len,List.length_take]; omega
 have h3:q5j (Event.row m++C) (w*9) Z=Event.row (m.take w)++q5j (Event.row (m.drop w)++C) 0 Z:=by
  rw [h1,<-h2]
  exact q5w Z _ _ 0
 rw [h3]
 refine h _ ?_
 rw [List.length_append,q7u,<-List.length_append,<-h1,hC]
theorem compact_spec {l:List Event}{C:List PV}{b cap N:Nat}(hN:l.length=N)(hN2:N<=100000)(hcap:N<=cap/\cap<=9223372036854775807)(hC:(Event.row l++C).length=cap*9)(st:q5f) :
  PCalls P F.q0i [.own b 0 N cap,eqF] ((b,rowO l C)::st) (CompQ l b cap st):=by
 have hrl:=Event.row_len l
 refine H.q0i.view q5n rfl rfl ?_
 by_cases h2:N<2
 ·have e:q9m eqB l=l:=cmpB_few (by omega)
  have h3:(N:Int)<2:=by omega
  repeat' (simp -dsimp -implicitDefEqProofs [*])
  exact .same ⟨C,by rw [e]; exact hC,by rw [e,hN],by rw [e]⟩
 have h3:¬ (N:Int)<2:=by omega
 repeat' (simp -dsimp -implicitDefEqProofs [*])
 refine q5h (fun i:Nat=>[(0,.own b 0 N cap),(1,eqF),(5,.int i)]) (fun _=>(b,rowO l C)::st) (fun i=>(1<=i/\i<=N)/\Hid (q9m eqB (l.take i)=l.take i)) (fun i=>N-i) 1 ⟨⟨Nat.le_refl _,by omega⟩,⟨z3j eqB l⟩⟩ (by simp) (.refl _) ?_
 rintro i ⟨⟨hi1,hi⟩,hI⟩
 by_cases hin:i<N
 case neg=>
  obtain rfl:i=N:=by omega
  have e:q9m eqB l=l:=by
   have:=hI.out
   rwa [List.take_of_length_le (by omega)] at this
  clear hI
  repeat' (simp -dsimp -implicitDefEqProofs [*])
  exact .same ⟨C,by rw [e]; exact hC,by rw [e,hN],by rw [e]⟩
 have hil:i<l.length:=by omega
 have hil1:i-1<l.length:=by omega
 have hwi:=q5i (n:=i) (by omega)
 have hwm:IntKind.i64.wrap ((i:Int)-1)=((i-1:Nat):Int):=by rw [q5l (by omega) (by omega)]; omega
 have st1:=k26 eqB l (i-1) (by omega)
 have ei:i-1+1=i:=by omega
 have ei2:i-1+2=i+1:=by omega
 simp only [ei,ei2] at st1
 have g1:=own_sub (C:=C) hil
 have g2:=own_sub (C:=C) hil1
 have c:=fun st=>eq_spec l[i] l[i-1] st
 by_cases hk:eqB l[i] l[i-1]=true
 case neg=>
  rw [if_neg hk] at st1
  have nx:Hid (q9m eqB (l.take (i+1))=l.take (i+1)):=⟨by rw [st1,hI.out,List.take_succ_eq_append_getElem hil]⟩
  clear st1 hI
  rw [Bool.not_eq_true] at hk
  rw [hk] at c
  clear hk
  repeat' (first 
   | (with_reducible refine Rets.xcall (c _) ?_)
   | ((with_reducible refine q5v ?_ fun hk=>?_); omega)
   | (simp -dsimp -implicitDefEqProofs [*]))
  exact Next.intro (i+1) ⟨⟨by omega,by omega⟩,nx⟩ (by omega) (by simp) q5o
 rw [if_pos hk,List.append_nil] at st1
 have nx:Hid (Cmp2 eqB l (i+1) i l):=⟨Cmp2.start hI.out (by omega) hi1 (by rw [st1,hI.out])⟩
 clear st1 hI
 rw [hk] at c
 clear hk
 repeat' (first 
  | (with_reducible refine Rets.xcall (c _) ?_)
  | (with_reducible refine And.intro (fun h=>?_) (fun h=>?_)) <;> (try (exfalso; omega))
  | ((with_reducible refine q5v ?_ fun hk=>?_); omega)
  | (simp -dsimp -implicitDefEqProofs [*]))
 clear g1 g2 c
 refine q5h (σ:=Nat × Nat × List Event) (fun x=>[(0,.own b 0 N cap),(1,eqF),(5,.int (x.2.1:Nat)),(6,.own b (i*9) (N-i) (cap-i)),(7,.int (x.1:Nat))]) (fun x=>(b,rowO x.2.2 C)::st) (fun x=>(1<=x.1/\i+x.1<=N)/\Hid (Cmp2 eqB l (i+x.1) x.2.1 x.2.2)) (fun x=>N-i-x.1) (1,i,l) ⟨⟨Nat.le_refl _,by simp only; omega⟩,nx⟩ (by simp) (.refl _) ?_
 rintro⟨k,w,m⟩ ⟨⟨hk1,hk2⟩,hI⟩
 simp only at hk1 hk2 hI
 have hlt:=hI.out.lt
 have hml:=hI.out.len
 have hmr:(Event.row m++C).length=cap*9:=by rw [List.length_append,Event.row_len,hml,<-Event.row_len,<-List.length_append,hC]
 by_cases hkn:i+k<N
 case neg=>
  have hdone:Hid (m.take w=q9m eqB l):=⟨by rw [hI.out.done,List.take_of_length_le (by omega)]⟩
  have hwl:Hid ((q9m eqB l).length=w):=⟨by rw [<-hdone.out,List.length_take]; omega⟩
  clear hI nx
  have hkk:¬ (k:Int)<(N-i:Nat):=by omega
  have hwN:w<=N:=by omega
  have hwc:w<=cap:=by omega
  have hb2:w*9+(N-w)*9<=cap*9:=by omega
  repeat' (first 
   | (with_reducible refine And.intro (fun h=>?_) (fun h=>?_)) <;> (try (exfalso; omega))
   | (simp -dsimp -implicitDefEqProofs [*]))
  refine clear_ret m C w cap (by omega) hmr (fun R hR=>?_) _
  exact .same ⟨R,by rw [<-hdone.out]; exact hR,by rw [hwl.out],by rw [<-hdone.out]⟩
 obtain⟨j,hj⟩:∃ j,i+k=j+1:=⟨i+k-1,by omega⟩
 have hjl:j+1<l.length:=by omega
 have hwk:=q5i (n:=k) (by omega)
 have hww:=q5i (n:=w) (by omega)
 have hwm2:IntKind.i64.wrap ((k:Int)-1)=((k-1:Nat):Int):=by rw [q5l (by omega) (by omega)]; omega
 have a1:m[j+1]?=some l[j+1]:=hI.out.rest (j+1) hjl (by omega)
 have a2:m[j]?=some l[j]:=hI.out.rest j (by omega) (by omega)
 have b1:j+1<m.length:=by omega
 have b2:j<m.length:=by omega
 rw [List.getElem?_eq_getElem b1,Option.some.injEq] at a1
 rw [List.getElem?_eq_getElem b2,Option.some.injEq] at a2
 have g3:sub (Event.row m++C) (i*9+k*9) 9=some (l[j+1]).enc:=by rw [show i*9+k*9=(j+1)*9 by omega,<-a1]; exact own_sub b1
 have g4:sub (Event.row m++C) (i*9+(k-1)*9) 9=some (l[j]).enc:=by rw [show i*9+(k-1)*9=j*9 by omega,<-a2]; exact own_sub b2
 clear a1 a2
 have g5:∀ x:Event,q5j (Event.row m++C) (w*9) x.enc=Event.row (m.set w x)++C:=fun x=>own_set (by omega)
 have hkk:(k:Int)<(N-i:Nat):=by omega
 have hkc:i*9+k*9+9<=cap*9:=by omega
 rw [hj] at hI
 have c:=fun st=>eq_spec l[j+1] l[j] st
 by_cases hq:eqB l[j+1] l[j]=true
 case pos=>
  have nx2:Hid (Cmp2 eqB l (i+(k+1)) w m):=⟨by rw [show i+(k+1)=j+2 by omega]; exact hI.out.same hjl hq⟩
  clear hI nx
  rw [hq] at c
  clear hq
  generalize l[j+1]=x at *
  generalize l[j]=y at *
  repeat' (first 
   | (with_reducible refine Rets.xcall (c _) ?_)
   | (with_reducible refine DrawLate.intro [] ?_)
   | ((with_reducible refine q5v ?_ fun hk=>?_); omega)
   | (simp -dsimp -implicitDefEqProofs [*]))
  exact Next.intro (k+1,w,m) ⟨⟨by simp only; omega,by simp only; omega⟩,nx2⟩ (by simp only; omega) (by simp) q5o
 have nx2:Hid (Cmp2 eqB l (i+(k+1)) (w+1) (m.set w l[j+1])):=⟨by rw [show i+(k+1)=j+2 by omega]; exact hI.out.keep hjl (by simpa using hq)⟩
 clear hI nx
 rw [Bool.not_eq_true] at hq
 rw [hq] at c
 clear hq
 generalize l[j+1]=x at *
 generalize l[j]=y at *
 repeat' (first 
  | (with_reducible refine Rets.xcall (c _) ?_)
  | (with_reducible refine DrawLate.intro [] ?_)
  | ((with_reducible refine q5v ?_ fun hk=>?_); omega)
  | (simp -dsimp -implicitDefEqProofs [*]))
 exact Next.intro (k+1,w+1,m.set w x) ⟨⟨by simp only; omega,by simp only; omega⟩,nx2⟩ (by simp only; omega) (by simp) q5o
theorem compact0 (st:q5f):Rets P F.q0i [.nil,eqF] st .nil:=by
 refine H.q0i.view q5n rfl rfl ?_
 repeat' (simp -dsimp -implicitDefEqProofs [*])
 exact .same ⟨rfl,rfl⟩
theorem acc_row {a:Acc Event}(h:a.Ok Event.row 9):∃ C,a.R=Event.row a.l++C/\(Event.row a.l++C).length=a.cap*9:=
 ⟨a.R.drop (a.l.length*9),by rw [<-h.row,List.take_append_drop],by rw [<-h.row,List.take_append_drop,h.len]⟩
theorem ok_of {l:List Event}{C:List PV}{b cap:Nat}(h1:l.length<=cap)(h2:cap<=9223372036854775807)(h3:(Event.row l++C).length=cap*9):Acc.Ok Event.row 9 ⟨l,b,cap,Event.row l++C⟩:=
 ⟨h1,h2,h3,by rw [<-Event.row_len]; exact List.take_left⟩
theorem compact_acc (o:Option (Acc Event))(hl:(q50 o).length<=100000)(st:q5f)(ho:accOk Event.row 9 st o) :
  PCalls P F.q0i [q7s o,eqF] (q6e T.apiEvent st o) fun e s=>∃ o',accOk Event.row 9 st o'/\(q50 o'=q9m eqB (q50 o)/\e=.ret (q7s o'))/\s=q6e T.apiEvent st o':=by
 cases o with
 | none=>exact PCalls.mono (compact0 st) fun e s ⟨h1,h2⟩=>⟨none,trivial,⟨rfl,h1⟩,h2⟩
 | some a=>
  obtain⟨ha,hb⟩:=ho
  obtain⟨C,h1,h2⟩:=acc_row ha
  have:=compact_spec (b:=a.b) (cap:=a.cap) (N:=a.l.length) rfl hl ⟨ha.le,ha.cap⟩ h2 st
  simp only [q7b,q52,q7k] at *
  rw [h1]
  refine PCalls.mono this fun e s ⟨R,k1,k2,k3⟩=>⟨some ⟨q9m eqB a.l,a.b,a.cap,Event.row (q9m eqB a.l)++R⟩,⟨ok_of (Nat.le_trans (z3k eqB a.l) ha.le) ha.cap k1,hb⟩,⟨rfl,k2⟩,k3⟩
abbrev cmpF:PV:=.func (.func F.q24) [] []
theorem insertion0 (st:q5f):Rets P F.q0k [.nil,.int 0,.int 0,cmpF] st (.tuple []):=by
 refine H.q0k.view q5n rfl rfl ?_
 repeat' (simp -dsimp -implicitDefEqProofs [*])
 refine q5h (fun _:Unit=>[(8,.int 1),(0,.nil),(1,.int 0),(2,.int 0),(3,cmpF)]) (fun _=>st) (fun _=>True) (fun _=>0) () trivial (by simp) (.refl _) ?_
 rintro - -
 repeat' (simp -dsimp -implicitDefEqProofs [*])
 exact .same ⟨rfl,rfl⟩
theorem stable0 (st:q5f):Rets P F.q0y [.nil,.int 0,cmpF] st (.tuple []):=by
 refine H.q0y.view q5n rfl rfl ?_
 repeat' (simp -dsimp -implicitDefEqProofs [*])
 refine q5h (fun _:Unit=>[(8,.int 20),(7,.int 0),(6,.int 20),(0,.nil),(1,.int 0),(2,cmpF)]) (fun _=>st) (fun _=>True) (fun _=>0) () trivial (by simp) (.refl _) ?_
 rintro - -
 repeat' (first 
  | (with_reducible refine Rets.xcall (insertion0 _) ?_)
  | (simp -dsimp -implicitDefEqProofs [*]))
 refine q5h (fun _:Unit=>[(6,.int 20),(1,.int 0)]) (fun _=>st) (fun _=>True) (fun _=>0) () trivial (by simp) (.refl _) ?_
 rintro - -
 repeat' (simp -dsimp -implicitDefEqProofs [*])
 exact .same ⟨rfl,rfl⟩
theorem sort0 (st:q5f):Rets P F.q0e [.nil,cmpF] st (.tuple []):=by
 refine H.q0e.view q5n rfl rfl ?_
 repeat' (first 
  | (with_reducible refine Rets.xcall (stable0 _) ?_)
  | (simp -dsimp -implicitDefEqProofs [*]))
 exact .same ⟨rfl,rfl⟩
theorem sort_own {l:List Event}{C:List PV}{b cap N:Nat}(hN:l.length=N)(hN2:N<=100000)(st:q5f) :
  Does P F.q0e [.own b 0 N cap,cmpF] ((b,rowO l C)::st) (.tuple []) ((b,rowO (srt key l) C)::st):=by
 have hs:=SortEvent.stable_spec (C:=C) (b:=b) (cap:=cap) hN hN2 st
 refine H.q0e.view q5n rfl rfl ?_
 repeat' (first 
  | (with_reducible refine Does.xcall (hs) ?_)
  | (simp -dsimp -implicitDefEqProofs [*]))
 exact .drop (StLe.refl _) ⟨rfl,rfl⟩
theorem sort_acc (o:Option (Acc Event))(hl:(q50 o).length<=100000)(st:q5f)(ho:accOk Event.row 9 st o) :
  PCalls P F.q0e [q7s o,cmpF] (q6e T.apiEvent st o) fun e s=>∃ o',accOk Event.row 9 st o'/\((q50 o'=srt key (q50 o)/\q7s o'=q7s o)/\e=.ret (.tuple []))/\s=q6e T.apiEvent st o':=by
 cases o with
 | none=>exact PCalls.mono (sort0 st) fun e s ⟨h1,h2⟩=>⟨none,trivial,⟨⟨rfl,rfl⟩,h1⟩,h2⟩
 | some a=>
  obtain⟨ha,hb⟩:=ho
  obtain⟨C,h1,h2⟩:=acc_row ha
  have:=sort_own (l:=a.l) (C:=C) (b:=a.b) (cap:=a.cap) (N:=a.l.length) rfl hl st
  have hl2:(srt key a.l).length=a.l.length:=k3q ..
  simp only [q7b,q52,q7k] at *
  rw [h1]
  refine PCalls.mono this fun e s ⟨k1,k2⟩=>⟨some ⟨srt key a.l,a.b,a.cap,Event.row (srt key a.l)++C⟩,⟨ok_of (by rw [hl2]; exact ha.le) ha.cap (by rw [List.length_append,Event.row_len,hl2,<-Event.row_len,<-List.length_append,h2]),hb⟩,⟨⟨rfl, ?_⟩,k1⟩,k2⟩
  show PV.own a.b 0 (srt key a.l).length a.cap=_
  rw [hl2]
end CompEvent
open Go.Pv
set_option maxRecDepth 100000
namespace SortDecision
@[simp] theorem own_sub {l:List Decision}{i:Nat}{C:List PV}(h:i<l.length):sub (Decision.row l++C) (i*14) 14=some (l[i]).enc:=Go.Pv.own_sub Decision.len h
@[simp] theorem own_set {l:List Decision}{i:Nat}{x:Decision}{C:List PV}(h:i<l.length):q5j (Decision.row l++C) (i*14) x.enc=Decision.row (l.set i x)++C:=Go.Pv.own_set Decision.len h
abbrev cmpF:PV:=.func (.func F.q25) [] []
theorem by_spec (x y:Decision)(st:q5f):Rets P F.q25 [x.pv,y.pv] st (.int (z0j x.no y.no)):=by
 refine H.q25.pure q5n rfl rfl ?_
 repeat' (first 
  | (with_reducible refine Fresh.intro fun b hb=>?_) <;> (try simp -dsimp -implicitDefEqProofs [*] at hb)
  | (with_reducible refine Rets.xcall (k8b _ _ _) ?_)
  | (simp -dsimp -implicitDefEqProofs [*]))
abbrev rowO (l:List Decision)(C:List PV):PObj:=.arr T.apiDecision (Decision.row l++C)
def exch (l:List Decision)(i j:Nat)(hi:i<l.length)(hj:j<l.length):List Decision:=(l.set i l[j]).set j l[i]
theorem swap2 {l P Q R:List Decision}{x y:Decision}{i j:Nat}(hl:l=P++x::(Q++y::R))(hi:P.length=i)(hj:i+1+Q.length=j) :
  (∀ h:i<l.length,l[i]=x)/\(∀ h:j<l.length,l[j]=y)/\(l.set i y).set j x=P++y::(Q++x::R)/\(l.set j x).set i y=P++y::(Q++x::R)/\i<l.length/\j<l.length:=by
 subst hl; subst hi; subst hj
 have e2:P.length+1+Q.length-P.length=Q.length+1:=by omega
 have e3:¬ P.length+1+Q.length<P.length:=by omega
 refine⟨fun h=>by simp,fun h=>?_, ?_, ?_,by simp,by simp; omega⟩
 ·rw [List.getElem_append_right (by omega)]
  simp [e2]
 ·simp [List.set_append,e2,e3]
 ·simp [List.set_append,e2,e3]
theorem cut_at {A:List Decision}{i:Nat}(h:i<A.length):∃ a,A.drop i=a::A.drop (i+1)/\A.take (i+1)=A.take i++[a]:=⟨A[i],List.drop_eq_getElem_cons h,List.take_succ_eq_append_getElem h⟩
theorem cut_len {A:List Decision}{k:Nat}(h:k<=A.length):∃ U V,A=U++V/\U.length=k/\V.length=A.length-k:=⟨A.take k,A.drop k,(List.take_append_drop k A).symm,by simp [h],by simp⟩
abbrev key (e:Decision):Int:=e.no
@[simp] theorem cmpI_lt (a b:Int):z0j a b<0 ↔ a<b:=by unfold z0j; split <;> (try split) <;> omega
@[simp] theorem cmpI_ge (a b:Int):0<=z0j a b ↔ b<=a:=by unfold z0j; split <;> (try split) <;> omega
theorem at_mid {l P R:List Decision}{z:Decision}{i:Nat}(hl:l=P++z::R)(hi:P.length=i):i<l.length/\∀ h:i<l.length,l[i]=z:=by
 subst hl; subst hi
 exact⟨by simp,fun h=>by simp⟩
def InsI (X U R:List Decision)(x:Decision)(N a j:Nat)(l:List Decision):Prop:=l.length=N/\∃ P Q,U=P++Q/\l=X++P++x::(Q++R)/\a+P.length=j/\∀ q ∈ Q,key x<key q
theorem ins_step {X U R:List Decision}{x:Decision}{N a j:Nat}{l:List Decision}(h:InsI X U R x N a j l)(hX:X.length=a)(hU:Srtd key U)(hj:a<j):∃ v l3,(∀ h:j<l.length,l[j]=x)/\(∀ h:j-1<l.length,l[j-1]=v)/\(l.set j v).set (j-1) x=l3/\l3.length=N/\j<N ∧
  (key x<key v->InsI X U R x N a (j-1) l3)/\(key v<=key x->l=X++srt key (U++[x])++R):=by
 obtain⟨hN,P,Q,h1,h2,h3,h4⟩:=h
 rcases List.eq_nil_or_concat P with rfl |⟨P',v,rfl⟩
 ·simp at h3; omega
 rw [List.concat_eq_append] at *
 simp at h3
 obtain⟨e1,e2,e3,e4,e5,e6⟩:=swap2 (l:=l) (P:=X++P') (x:=v) (Q:=[]) (y:=x) (R:=Q++R) (i:=j-1) (j:=j) (by rw [h2]; simp) (by simp; omega) (by simp; omega)
 have hlen:((l.set j v).set (j-1) x).length=N:=by simp [hN]
 refine⟨v,_,e2,e1,rfl,hlen,by omega,fun hv=>⟨hlen,P',v::Q,by rw [h1]; simp,by rw [e4]; simp,by omega,fun q hq=>?_⟩,fun hv=>?_⟩
 ·rcases List.mem_cons.1 hq with rfl | hq
  ·exact hv
  ·exact h4 q hq
 ·rw [h2,h1,<-k3r (h1 ▸ hU) (fun p hp=>?_) h4]
  ·simp
  ·rcases List.mem_append.1 hp with hp | hp
   ·have:=(h1 ▸ hU:Srtd key (P'++[v]++Q)).left.le hp (b:=v) (by simp)
    omega
   ·simp at hp; subst hp; exact hv
theorem ins_end {X U R:List Decision}{x:Decision}{N a:Nat}{l:List Decision}(h:InsI X U R x N a a l)(hU:Srtd key U):l=X++srt key (U++[x])++R:=by
 obtain⟨hN,P,Q,h1,h2,h3,h4⟩:=h
 have:P=[]:=List.length_eq_zero_iff.1 (by omega)
 subst this
 rw [h2,h1,<-k3r (h1 ▸ hU) (by simp) h4]
 simp
theorem srt_more {T:List Decision}{x:Decision}:srt key (srt key T++[x])=srt key (T++[x]):=z5n (Stb.app (q8m T).symm (.refl _))
theorem insertion_spec {l l2 X L Y:List Decision}{C:List PV}{b cap N a z:Nat}(hN:l.length=N)(hN2:N<=100000)(hl:l=X++L++Y)(hl2:l2=X++srt key L++Y)(hX:X.length=a)(hz:a+L.length=z)(st:q5f) :
  Does P F.q0f [.own b 0 N cap,.int (a:Nat),.int (z:Nat),cmpF] ((b,rowO l C)::st) (.tuple []) ((b,rowO l2 C)::st):=by
 have hzN:z<=N:=by
  have:=congrArg List.length hl
  simp at this
  omega
 have h0:Hid (l=X++srt key (L.take (a+1-a))++(L.drop (a+1-a)++Y)):=by
  constructor
  rw [hl,show a+1-a=1 by omega]
  rcases L with _ |⟨x,L⟩
  ·simp [srt]
  ·simp [srt,k4c]
 have h2:Hid (l2=X++srt key L++Y):=⟨hl2⟩
 obtain⟨a1,ha1⟩:∃ a1,a1=a+1:=⟨_,rfl⟩
 have hwa:IntKind.i64.wrap ((a:Int)+1)=(a1:Int):=by rw [ha1,q5i (by omega)]; omega
 rw [<-ha1] at h0
 have haz:a1=a+1:=ha1
 clear hl hl2 ha1
 refine H.q0f.view q5n rfl rfl ?_
 clear haz
 repeat' (simp -dsimp -implicitDefEqProofs [*])
 have haz:a1=a+1:=by have:=q5i (n:=a) (by omega); omega
 refine q5h (fun s:Nat × List Decision=>[(0,.own b 0 N cap),(1,.int (a:Nat)),(2,.int (z:Nat)),(3,cmpF),(8,.int (s.1:Nat))]) (fun s=>(b,rowO s.2 C)::st)
  (fun s=>a1<=s.1/\(s.1<=z\/s.1=a1)/\s.2.length=N/\s.2=X++srt key (L.take (s.1-a))++(L.drop (s.1-a)++Y)) (fun s=>z-s.1) (a1,l) ⟨Nat.le_refl _,.inr rfl,hN,h0.out⟩ (by simp) (by simp) ?_
 clear h0 hwa
 rintro⟨i,l'⟩ ⟨hi1,hi2,hlen',hl'⟩
 simp only at hi1 hi2 hlen' hl'
 by_cases hiz:i<z
 ·obtain⟨x,c1,c2⟩:=cut_at (A:=L) (i:=i-a) (by omega)
  obtain⟨i2,hi3⟩:∃ i2,i2=i+1:=⟨_,rfl⟩
  have hwi:IntKind.i64.wrap ((i:Int)+1)=(i2:Int):=by rw [hi3,q5i (by omega)]; omega
  have hi4:i-a+1=i2-a:=by omega
  rw [hi4] at c1 c2
  have hU:=q7d (key:=key) (L.take (i-a))
  have hlU:(srt key (L.take (i-a))).length=i-a:=by simp; omega
  have hI:InsI X (srt key (L.take (i-a))) (L.drop (i2-a)++Y) x N a i l':=⟨hlen',srt key (L.take (i-a)),[],by simp,by rw [hl',c1]; simp,by omega,by simp⟩
  have hfin:∀ l3:List Decision,l3=X++srt key (srt key (L.take (i-a))++[x])++(L.drop (i2-a)++Y)->l3=X++srt key (L.take (i2-a))++(L.drop (i2-a)++Y):=fun l3 h=>by rw [h,srt_more,c2]
  generalize srt key (L.take (i-a))=U at hI hfin hU
  have hii:i<i2/\i2<=z/\a1<=i2/\a<i:=by omega
  clear hl' c1 c2 hi3 hi4 hlU hlen' haz hi2
  repeat' (simp -dsimp -implicitDefEqProofs [*])
  refine q5h (fun s:Nat × List Decision=>[(0,.own b 0 N cap),(1,.int (a:Nat)),(2,.int (z:Nat)),(3,cmpF),(8,.int (i:Nat)),(9,.int (s.1:Nat))]) (fun s=>(b,rowO s.2 C)::st)
   (fun s=>a<=s.1/\InsI X U (L.drop (i2-a)++Y) x N a s.1 s.2) (fun s=>s.1) (i,l') ⟨by simp only; omega,hI⟩ (by simp) (by simp) ?_
  rintro⟨j,l''⟩ ⟨hj1,hJ⟩
  simp only at hj1 hJ
  have hlen2:=hJ.1
  by_cases hj:a<j
  ·obtain⟨v,l3,s1,s2,s3,s4,s5,s6,s7⟩:=ins_step hJ hX hU hj
   obtain⟨q,hq⟩:∃ q,q=j-1:=⟨_,rfl⟩
   have hwq:IntKind.i64.wrap ((j:Int)-1)=(q:Int):=by rw [q5l (by omega) (by omega)]; omega
   rw [<-hq] at s2 s3 s6
   have hqj:q<j/\a<=q/\q<N:=by omega
   clear hq hX hI hJ hz
   by_cases hxv:x.no<v.no
   ·replace s6:=s6 hxv
    clear s7 hfin
    repeat' (simp -dsimp -implicitDefEqProofs [*])
    refine DrawLate.intro [] ?_
    repeat' (first 
     | (with_reducible refine Rets.xcall (by_spec _ _ _) ?_)
     | (simp -dsimp -implicitDefEqProofs [*]))
    refine DrawLate.intro [b] ?_
    repeat' (first 
     | ((with_reducible refine q5v ?_ fun hk=>?_); omega)
     | (simp -dsimp -implicitDefEqProofs [*]))
    exact Next.intro (q,l3) ⟨hqj.2.1,s6⟩ (by simp only; omega) (by simp) q5o
   ·have s8:Hid (l''=X++srt key (L.take (i2-a))++(L.drop (i2-a)++Y)):=⟨hfin l'' (s7 (Int.not_lt.1 hxv))⟩
    clear s6 s7 s3 hfin
    repeat' (first 
     | (with_reducible refine Rets.xcall (by_spec _ _ _) ?_)
     | (with_reducible refine DrawLate.intro [] ?_)
     | (simp -dsimp -implicitDefEqProofs [*]))
    exact Next.intro (i2,l'') ⟨hii.2.2.1,.inl hii.2.1,hlen2,s8.out⟩ (by simp only; omega) (by simp) q5o
  ·have hja:j=a:=by omega
   subst hja
   have s8:Hid (l''=X++srt key (L.take (i2-j))++(L.drop (i2-j)++Y)):=⟨hfin l'' (ins_end hJ hU)⟩
   clear hfin hI hJ
   repeat' (first 
    | (with_reducible refine DrawLate.intro [] ?_)
    | (simp -dsimp -implicitDefEqProofs [*]))
   exact Next.intro (i2,l'') ⟨hii.2.2.1,.inl hii.2.1,hlen2,s8.out⟩ (by simp only; omega) (by simp) q5o
 ·have e:l'=l2:=by rw [hl',h2.out,List.take_of_length_le (by omega),List.drop_of_length_le (by omega)]; simp
  clear hl' hX hz h2
  subst e
  repeat' (simp -dsimp -implicitDefEqProofs [*])
  exact .drop (StLe.refl _) ⟨rfl,rfl⟩
end SortDecision
end Go.Proofs.YtmlmoaimjifpgaaGreat
