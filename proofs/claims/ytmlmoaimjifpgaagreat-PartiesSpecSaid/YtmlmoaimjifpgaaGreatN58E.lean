/- A note's message. -/
import Derived.Test.YtmlmoaimjifpgaaGreatS58A
import Derived.Test.YtmlmoaimjifpgaaGreatC58G
import Derived.Test.YtmlmoaimjifpgaaGreatD58D
import Derived.Lib.Bytealg
import Derived.Lib.Strings
import Derived.WalkKit
namespace Go.Proofs.YtmlmoaimjifpgaaGreat
open Go.Pv Go.Pv.Cd
set_option maxRecDepth 100000
set_option maxHeartbeats 8000000
theorem q9u (n:Nat):k06 n=j0t n:=by
 induction n using Nat.strongRecOn with
 | _ n ih=>
  by_cases h:n<128
  ·rw [k6z h,z8o h]
  ·rw [k9o h,z8p h,ih (n / 128) (by omega)]
def iv (x:Int):Wv:=⟨1,.int x,q64,.nil,1#8::k06 (2*x.toNat)⟩
def rI (l:List Int):List PV:=l.flatMap fun x=>[.int 1,.int x,q64,.nil]
theorem j1c:∀ l:List Int,(rI l).length=l.length*4
 | []=>rfl
 | x::l=>by
  have:=j1c l
  simp only [rI,List.flatMap_cons,List.length_append,List.length_cons,List.length_nil] at this ⊢
  omega
theorem z6k (l m:List Int):rI (l++m)=rI l++rI m:=by simp [rI]
theorem j5q (l:List Int):(l.map iv).flatMap Wv.row=rI l:=by
 rw [List.flatMap_map]
 rfl
theorem z3s:∀ (l:List Int),(∀ x ∈ l,0<=x)->(l.map iv).flatMap Wv.B=Vl.encs (l.map .int)
 | [],_=>rfl
 | x::l,h=>by
  have h0:=h x (List.mem_cons_self ..)
  have ih:=z3s l fun y hy=>h y (List.mem_cons_of_mem _ hy)
  rw [List.map_cons,List.flatMap_cons,ih,List.map_cons,Vl.encs,Vl.enc]
  congr 1
  show 1#8::k06 (2*x.toNat)=1#8::j0t (zig x)
  rw [q9u]
  unfold zig
  rw [if_pos h0]
theorem z85 (l:List Int)(hl0:0<l.length)(hl:l.length<=100)(h:∀ x ∈ l,0<=x/\x<=2097152)(st:q5f) :
  Rets P F.q36 [.agg (q9x (rI l) l.length)] st (.tuple [q53 false (Vl.list (l.map .int)).enc,.int 0]):=by
 have:=z84 (l.map iv) (by simpa using hl0) (by simpa using hl) 0 (by omega) (fun c v hv=>by
  obtain⟨x,hx,rfl⟩:=List.mem_map.1 hv
  have hx:=h x hx
  refine⟨show 1<4 by decide, ?_, ?_⟩
  ·show (1#8::k06 (2*x.toNat)).length<=2000
   have:=q69 (n:=2*x.toNat) (by omega)
   simp only [List.length_cons]
   omega
  ·refine⟨F.q2o,[],rfl,fun o st ho hol=>?_⟩
   have:=z3r x.toNat (by omega) o st ho (by omega)
   have e:((x.toNat:Nat):Int)=x:=by omega
   unfold j3i at this
   rw [e] at this
   exact this) (fun v hv st=>by
  obtain⟨x,hx,rfl⟩:=List.mem_map.1 hv
  have hx:=h x hx
  have:=j5p x.toNat st
  have e:((x.toNat:Nat):Int)=x:=by omega
  unfold j3i at this
  rw [e] at this
  exact this) st
 rw [j5q,z3s l fun x hx=>(h x hx).1,q9u,List.length_map] at this
 rw [Vl.enc,List.length_map]
 exact this
theorem z3t (f:Nat->PV):∀ (n k i:Nat),i<n->(j02 f k n)[i]?=some (f (k+i))
 | 0,_,_,h=>absurd h (Nat.not_lt_zero _)
 | n+1,k,0,_=>rfl
 | n+1,k,i+1,h=>by
  rw [j02,List.getElem?_cons_succ,z3t f n (k+1) i (by omega)]
  congr 2
  omega
theorem z3u (f:Nat->PV):∀ (n k:Nat),(j02 f k n).length=n
 | 0,_=>rfl
 | n+1,k=>by rw [j02,List.length_cons,z3u f n (k+1)]
theorem q9v (n:Note)(hn:q5q n=true)(st:q5f):Rets P F.q19 [n.pv] st (.str (k60 (msg n))):=by
 have hs:=k0v hn
 have he:=fun st=>z85 n.ints (by simp) (by simp) hs st
 refine H.q19.view q5n rfl rfl ?_
 repeat' (first 
  | (with_reducible refine Fresh.intro fun b hb=>?_) <;> (try simp -dsimp -implicitDefEqProofs [*] at hb)
  | (with_reducible refine Rets.xcall (q99 _ _) ?_)
  | (simp -dsimp -implicitDefEqProofs [*]))
 refine q5h (fun y:Nat × Option (Acc Int)=>[(8,.list false (j02 (.ptr b) 0 24) 24),(9,.int 24),(10,.int y.1),(3,q7s y.2)]) (fun y=>q6e T.apiValue ((b,.arr T.apiNote n.enc)::st) y.2) (fun y=>y.1<=24/\accOk rI 4 ((b,.arr T.apiNote n.enc)::st) y.2/\Hid (q50 y.2=n.ints.take y.1)) (fun y=>24-y.1) (0,none) ⟨Nat.zero_le _,trivial,⟨rfl⟩⟩ (by simp) (.refl _) ?_
 rintro⟨i,o⟩ ⟨hi,ho,hol⟩
 replace hi:i<=24:=hi
 replace ho:accOk rI 4 ((b,.arr T.apiNote n.enc)::st) o:=ho
 replace hol:Hid (q50 o=n.ints.take i):=hol
 simp only
 by_cases hil:i<24
 case neg=>
  obtain rfl:i=24:=by omega
  have hL:q50 o=n.ints:=hol.out
  clear hol hs
  have hbs:=q9h (msg n)
  cases o with
  | none=>exact absurd (congrArg List.length hL) (by simp)
  | some a=>
   have hfr:=Frz.acc (T:=T.apiValue) ho.1
   obtain⟨A,ab,cap,C⟩:=a
   simp only [q7b,q52,q97,q7k] at ho hfr hL ⊢
   subst hL
   obtain⟨ha,hnb⟩:=ho
   replace ha:=Hid.mk ha
   replace hnb:=Hid.mk hnb
   replace hfr:=Hid.mk hfr
   have hl24:n.ints.length=24:=rfl
   have he2:∀ st,Rets P F.q36 [.agg [.int 3,.int 0,q64,.list false (rI n.ints) 24]] st (.tuple [q53 false (msg n),.int 0]):=he
   clear he
   repeat' (simp -dsimp -implicitDefEqProofs [*])
   refine k88 (b:=ab) (o:=.arr T.apiValue C) hnb.out (.refl _) (.cons (.agg (.cons (.refl _) (.cons (.refl _) (.cons (.refl _) (.cons hfr.out .nil))))) .nil) (he2 _) ?_
   clear hfr he2 ha hnb
   repeat' (simp -dsimp -implicitDefEqProofs [*])
   exact RetView.drop (st':=st) q5o ⟨rfl,rfl⟩
 have hwi:=q5i (n:=i) (by omega)
 have hg:=k0w (T:=T.apiValue) ho (b:=b) (x:=.arr T.apiNote n.enc) (by simp)
 have p1:=z3t (.ptr b) 24 0 i hil
 rw [Nat.zero_add] at p1
 have P1:=q6v p1
 have q1:n.enc[i]?=some (.int n.ints[i]):=by
  rw [Note.enc_ints,List.getElem?_map,List.getElem?_eq_getElem (by simpa using hil)]
  rfl
 have hpl:=z3u (.ptr b) 24 0
 have hx:Hid (n.ints.take (i+1)=n.ints.take i++[n.ints[i]]):=⟨List.take_succ_eq_append_getElem (by simpa using hil)⟩
 have hol2:Hid ((q50 o).length=i):=⟨by rw [hol.out,List.length_take,Note.ints_len]; omega⟩
 obtain⟨x,hxd⟩:∃ x,x=n.ints[i]:=⟨_,rfl⟩
 rw [<-hxd] at q1 hx
 have Q1:=q6v q1
 clear hs he hxd
 repeat' (first 
  | (with_reducible refine Lit.imm ?_)
  | (with_reducible refine And.intro (fun h=>?_) (fun h=>?_)) <;> (try (exfalso; omega))
  | ((with_reducible refine q5v ?_ fun hk=>?_); omega)
  | (simp -dsimp -implicitDefEqProofs [-q5g, *]))
 refine q9t j1c z6k o ho [x] rfl rfl (by omega) (by rw [hol2.out]; omega) fun o' ho' hl'=>?_
 have kl:Hid (q50 o'=n.ints.take (i+1)):=⟨by rw [hl',hol.out,hx.out]⟩
 clear hl'
 repeat' (simp -dsimp -implicitDefEqProofs [-q5g, *])
 exact Next.intro (i+1,o') ⟨by simp only; omega,ho',kl⟩ (by simp only; omega) (by simp) q5o
open Go.Pv Go.Pv.Cd
set_option maxRecDepth 100000
set_option maxHeartbeats 8000000
theorem z86 (a b:ByteArray)(st:q5f):Rets P F.q4q [.str a,.str b] st (.int (Lib.compareBytes a.data.toList b.data.toList)):=
 .inr ⟨fun I w vs hS hv=>by
  obtain⟨v1,v2,rfl,e1,e2⟩:∃ v1 v2,vs=[v1,v2]/\vrep I (.str a) v1/\vrep I (.str b) v2:=by
   match vs,hv with
   | [v1,v2],hv=>simp only [vreps] at hv; exact⟨v1,v2,rfl,hv.1,hv.2.1⟩
  simp only [vrep] at e1 e2
  subst e1 e2
  refine⟨_,w,by rw [run_callFunc_extern Tryz.func210 (by kernel_rfl) (by kernel_rfl) (by kernel_rfl) (e:=Extern.BytealgCompare.compare) (by kernel_rfl),Lib.run_compareString]; rfl,I,st,I.le_refl,Calm.refl w,hS,_,by simp only [vrep],rfl,rfl⟩⟩
theorem j5r (a b:ByteArray)(st:q5f):Rets P F.q1o [.str a,.str b] st (.int (Lib.compareBytes a.data.toList b.data.toList)):=by
 refine H.q1o.pure q5n rfl rfl ?_
 repeat' (first 
  | (with_reducible refine Rets.xcall (z86 _ _ _) ?_)
  | (simp -dsimp -implicitDefEqProofs [*]))
theorem z87 (a b:ByteArray)(st:q5f):Rets P F.q4a [.str a,.str b] st (.int (Lib.compareBytes a.data.toList b.data.toList)):=by
 refine H.q4a.pure q5n rfl rfl ?_
 repeat' (first 
  | (with_reducible refine Rets.xcall (j5r _ _ _) ?_)
  | (simp -dsimp -implicitDefEqProofs [*]))
theorem k3c (a b:Note)(ha:q5q a=true)(hb:q5q b=true)(st:q5f):Rets P F.q09 [a.pv,b.pv] st (.int (q6p a b)):=by
 have ma:=fun st=>q9v a ha st
 have mb:=fun st=>q9v b hb st
 refine H.q09.pure q5n rfl rfl ?_
 repeat' (first 
  | (with_reducible refine Fresh.intro fun b hb=>?_) <;> (try simp -dsimp -implicitDefEqProofs [*] at hb)
  | (with_reducible refine Rets.xcall (ma _) ?_)
  | (with_reducible refine Rets.xcall (mb _) ?_)
  | (with_reducible refine Rets.xcall (z87 _ _ _) ?_)
  | (with_reducible refine DrawLate.intro [] ?_)
  | (simp -dsimp -implicitDefEqProofs [*]))
 rfl
theorem q82 (e:Int)(st:q5f):Rets P F.q1s [.bool true,.int e] st (.tuple []):=by
 refine H.q1s.pure q5n rfl rfl ?_
 repeat' (simp -dsimp -implicitDefEqProofs [*])
theorem k0x (e:Int)(st:q5f):Panics P F.q1s [.bool false,.int e] st (.iface T.apiErrno (.int e)):=by
 refine H.q1s.panics q5n rfl rfl ?_
 repeat' (simp -dsimp -implicitDefEqProofs [*])
theorem k50:[PV.int 0,.int 0,.int 0,.int 0,.int 0,.int 0,.int 0,.int 0,.int 0,.int 0,.int 0,.int 0,.int 0,.int 0]=zeroD.enc:=rfl
theorem y2w (d:Decision):okD [d] ↔ q7r d=true:=by
 have:=j01 (x:=d) z8w
 simp only [List.nil_append,j5f] at this
 rw [this]
 constructor
 ·exact fun h=>h.1
 ·intro h
  have:=k5v h
  exact⟨h,by omega⟩
theorem z1z (d:Decision):q86 [d]=0 ↔ q7r d=true:=by
 rw [k4v,y2w]
 simp
theorem z88 (e:Event)(st:q5f):Rets P F.q34 [.list true e.enc 1] st (.int (q8y [e])):=by
 rw [z8u]
 exact z1x true [e] st
theorem z89 (d:Decision)(st:q5f):Rets P F.q4e [.list true d.enc 1] st (.int (q86 [d])):=by
 have:=z8y true [d] st
 have e:Decision.lst true [d]=.list true d.enc 1:=by simp [Decision.lst]
 rwa [e] at this
theorem k2g (n:Note)(st:q5f):Rets P F.q1y [n.pv] st (.bool (q5q n)):=by
 have k1:=k6y n.ev
 have k2:=z1z n.dec
 have c1:=fun st=>z88 n.ev st
 have c2:=fun st=>z89 n.dec st
 generalize q8y [n.ev]=E1 at *
 generalize q86 [n.dec]=E2 at *
 by_cases h1:n.kind=1
 ·have ef:q5q n=(q8c n.ev && decide (n.dec=zeroD)):=by unfold q5q; rw [if_pos h1]
  rw [ef]
  clear ef k2 c2
  by_cases hz:n.dec=zeroD
  ·have e:(q8c n.ev && decide (n.dec=zeroD))=decide (E1=0):=by
    rw [decide_eq_true hz,Bool.and_true,Bool.eq_iff_iff,decide_eq_true_eq]
    exact k1.symm
   rw [e]
   clear e k1
   have hs:=n.subDec
   rw [hz] at hs
   refine H.q1y.pure q5n rfl rfl ?_
   repeat' (first 
    | (with_reducible refine Fresh.intro fun b hb=>?_) <;> (try simp -dsimp -implicitDefEqProofs [*] at hb)
    | (with_reducible refine Rets.xcall (c1 _) ?_)
    | (with_reducible refine Lit.imm ?_)
    | (simp -dsimp -implicitDefEqProofs [k50, *]))
  ·rw [decide_eq_false hz,Bool.and_false]
   clear k1 c1
   refine H.q1y.pure q5n rfl rfl ?_
   repeat' (first 
    | (with_reducible refine Fresh.intro fun b hb=>?_) <;> (try simp -dsimp -implicitDefEqProofs [*] at hb)
    | (simp -dsimp -implicitDefEqProofs [k50, *]))
 by_cases h2:n.kind=2
 ·have ef:q5q n=(q7r n.dec && decide (n.ev=zeroE)):=by unfold q5q; rw [if_neg h1,decide_eq_true h2,Bool.true_and]
  rw [ef]
  clear ef k1 c1
  by_cases hz:n.ev=zeroE
  ·have e:(q7r n.dec && decide (n.ev=zeroE))=decide (E2=0):=by
    rw [decide_eq_true hz,Bool.and_true,Bool.eq_iff_iff,decide_eq_true_eq]
    exact k2.symm
   rw [e]
   clear e k2
   have hs:=n.subEv
   rw [hz] at hs
   refine H.q1y.pure q5n rfl rfl ?_
   repeat' (first 
    | (with_reducible refine Fresh.intro fun b hb=>?_) <;> (try simp -dsimp -implicitDefEqProofs [*] at hb)
    | (with_reducible refine Rets.xcall (c2 _) ?_)
    | (with_reducible refine Lit.imm ?_)
    | (simp -dsimp -implicitDefEqProofs [q76, *]))
  ·rw [decide_eq_false hz,Bool.and_false]
   clear k2 c2
   refine H.q1y.pure q5n rfl rfl ?_
   repeat' (first 
    | (with_reducible refine Fresh.intro fun b hb=>?_) <;> (try simp -dsimp -implicitDefEqProofs [*] at hb)
    | (simp -dsimp -implicitDefEqProofs [q76, *]))
 ·have ef:q5q n=false:=by unfold q5q; rw [if_neg h1,decide_eq_false h2]; rfl
  rw [ef]
  clear ef k1 k2 c1 c2
  refine H.q1y.pure q5n rfl rfl ?_
  repeat' (first 
   | (with_reducible refine Fresh.intro fun b hb=>?_) <;> (try simp -dsimp -implicitDefEqProofs [*] at hb)
   | (simp -dsimp -implicitDefEqProofs [*]))
open Go.Pv Go.Pv.Cd
set_option maxRecDepth 100000
set_option maxHeartbeats 8000000
def ReadP (L:List (BitVec 8))(st:q5f)(e:PEnd)(s:q5f):Prop:=∃ (n:Note) (ok:Bool),e=.ret (.tuple [n.pv,.bool ok])/\s=st/\match q8f L with
 | some m=>ok=true/\n=m
 | none=>ok=false
theorem ReadP.no {L:List (BitVec 8)}{st:q5f}(h:q8f L=none)(n:Note):ReadP L st (.ret (.tuple [n.pv,.bool false])) st:=
 ⟨n,false,rfl,rfl,by rw [h]⟩
theorem k61:∀ l:List Vl,q81 l=l.flatMap q6t
 | []=>rfl
 | v::l=>by rw [q81,k61 l,List.flatMap_cons]
def z9a:Vl->Int
 | .int _=>1
 | .text _=>2
 | .list _=>3
def j5s:Vl->Int
 | .int n=>n
 | _=>0
theorem z10 (l:List Vl)(i:Nat)(h:i<l.length):(q81 l)[i*4]?=some (.int (z9a l[i])):=by
 rw [k61]
 have:=q94 (enc:=q6t) (k:=4) k3z l i 0 h (by omega)
 rw [Nat.add_zero] at this
 rw [this]
 cases l[i] <;> rfl
theorem z6l (l:List Vl)(i:Nat)(h:i<l.length):(q81 l)[i*4+1]?=some (.int (j5s l[i])):=by
 rw [k61]
 have:=q94 (enc:=q6t) (k:=4) k3z l i 1 h (by omega)
 rw [this]
 cases l[i] <;> rfl
structure RdI (l:List Vl)(i:Nat)(X:List Int):Prop where
 le:i<=24
 len:X.length=24
 is:q85 l=(q85 (l.drop i)).map (X.take i++·)
theorem RdI.zero (l:List Vl):RdI l 0 (List.replicate 24 0):=⟨by omega,by simp,by
 rw [List.drop_zero]
 cases q85 l with
 | none=>rfl
 | some k=>rfl⟩
theorem RdI.bad {l:List Vl}{i:Nat}{X:List Int}(h:RdI l i X)(hi:i<l.length)(hk:¬ z9a l[i]=1):q85 l=none:=by
 rw [h.is,<-List.getElem_cons_drop hi]
 cases e:l[i] with
 | int n=>rw [e] at hk; exact absurd rfl hk
 | text s=>rfl
 | list s=>rfl
theorem RdI.next {l:List Vl}{i:Nat}{X:List Int}(h:RdI l i X)(hi:i<l.length)(h24:i<24)(hk:z9a l[i]=1):RdI l (i+1) (X.set i (j5s l[i])):=by
 refine⟨by omega,by rw [List.length_set,h.len], ?_⟩
 rw [h.is,<-List.getElem_cons_drop hi]
 have hx:i<X.length:=by rw [h.len]; exact h24
 have e2:(X.set i (j5s l[i])).take (i+1)=X.take i++[j5s l[i]]:=by
  rw [List.take_succ_eq_append_getElem (by rw [List.length_set]; exact hx),List.getElem_set_self,List.take_set_of_le (Nat.le_refl _)]
 rw [e2]
 cases e:l[i] with
 | int n=>
  rw [q85]
  cases q85 (l.drop (i+1)) with
  | none=>rfl
  | some k=>simp [j5s]
 | text s=>rw [e] at hk; exact absurd hk (show ¬ (2:Int)=1 by decide)
 | list s=>rw [e] at hk; exact absurd hk (show ¬ (3:Int)=1 by decide)
theorem RdI.done {l:List Vl}{X:List Int}(h:RdI l 24 X)(hl:l.length=24):q85 l=some X:=by
 rw [h.is,List.drop_eq_nil_of_le (by omega),List.take_of_length_le (by rw [h.len]; omega)]
 simp [q85]
def z9b (X:List Int):List PV:=X.map fun x=>.int x
theorem z11 {X:List Int}(h:X.length=24):z9b X=(q8e X).enc:=by
 rw [Note.enc_ints,k4x h]
 rfl
theorem k9r (L:List (BitVec 8))(hL:L.length<=100000)(st:q5f):PCalls P F.q16 [q53 false L] st (ReadP L st):=by
 have dc:=fun st=>z83 L hL st
 unfold j1a j1b at dc
 cases hd:Go.Pv.Cd.decode L with
 | none=>
  rw [hd] at dc
  simp only at dc
  have e:=Hid.mk (ReadP.no (L:=L) (st:=st) (by unfold q8f; rw [hd]) (q8e []))
  clear hd
  refine H.q16.view q5n rfl rfl ?_
  repeat' (first 
   | (with_reducible refine Fresh.intro fun b hb=>?_) <;> (try simp -dsimp -implicitDefEqProofs [*] at hb)
   | (with_reducible refine Rets.xcall (dc _) ?_)
   | (with_reducible refine Rets.xcall (q99 _ _) ?_)
   | (simp -dsimp -implicitDefEqProofs [*]))
  exact RetView.drop (st':=st) q5o e.out
 | some v=>
  rw [hd] at dc
  simp only at dc
  cases v with
  | int n=>
   have e:=Hid.mk (ReadP.no (L:=L) (st:=st) (by unfold q8f; rw [hd]) (q8e []))
   clear hd
   simp only [q6t] at dc
   refine H.q16.view q5n rfl rfl ?_
   repeat' (first 
    | (with_reducible refine Fresh.intro fun b hb=>?_) <;> (try simp -dsimp -implicitDefEqProofs [*] at hb)
    | (with_reducible refine Rets.xcall (dc _) ?_)
    | (with_reducible refine Rets.xcall (q99 _ _) ?_)
    | (simp -dsimp -implicitDefEqProofs [*]))
   exact RetView.drop (st':=st) q5o e.out
  | text s=>
   have e:=Hid.mk (ReadP.no (L:=L) (st:=st) (by unfold q8f; rw [hd]) (q8e []))
   clear hd
   simp only [q6t] at dc
   refine H.q16.view q5n rfl rfl ?_
   repeat' (first 
    | (with_reducible refine Fresh.intro fun b hb=>?_) <;> (try simp -dsimp -implicitDefEqProofs [*] at hb)
    | (with_reducible refine Rets.xcall (dc _) ?_)
    | (with_reducible refine Rets.xcall (q99 _ _) ?_)
    | (simp -dsimp -implicitDefEqProofs [*]))
   exact RetView.drop (st':=st) q5o e.out
  | list l=>
   simp only [q6t] at dc
   by_cases hl:l.length=24
   case neg=>
    have e:=Hid.mk (ReadP.no (L:=L) (st:=st) (by
     unfold q8f
     rw [hd]
     simp only
     cases e:q85 l with
     | none=>rfl
     | some k=>
      simp only
      rw [if_neg]
      rintro⟨h1, -⟩
      have:=congrArg List.length (k5w e)
      rw [List.length_map] at this
      omega) (q8e []))
    have hl2:¬ (l.length:Int)=24:=by omega
    clear hd
    refine H.q16.view q5n rfl rfl ?_
    repeat' (first 
     | (with_reducible refine Fresh.intro fun b hb=>?_) <;> (try simp -dsimp -implicitDefEqProofs [*] at hb)
     | (with_reducible refine Rets.xcall (dc _) ?_)
     | (with_reducible refine Rets.xcall (q99 _ _) ?_)
     | (simp -dsimp -implicitDefEqProofs [*]))
    exact RetView.drop (st':=st) q5o e.out
   have e0:=Hid.mk (RdI.zero l)
   replace hd:=Hid.mk hd
   refine H.q16.view q5n rfl rfl ?_
   repeat' (first 
    | (with_reducible refine Fresh.intro fun b hb=>?_) <;> (try simp -dsimp -implicitDefEqProofs [*] at hb)
    | (with_reducible refine Rets.xcall (dc _) ?_)
    | (with_reducible refine Rets.xcall (q99 _ _) ?_)
    | (simp -dsimp -implicitDefEqProofs [*]))
   rename_i q hq
   clear dc
   refine q5h (fun y:Nat × List Int=>[(31,.list false (j02 (.ptr q) 0 24) 24),(32,.int 24),(33,.int y.1),(4,.ptr b 0),(3,.bool false),(2,.ptr q 0)]) (fun y=>(b,.arr T.apiValue [.int 3,.int 0,q64,.list false (q81 l) 24])::(q,.arr T.apiNote (z9b y.2))::st) (fun y=>Hid (RdI l y.1 y.2)) (fun y=>24-y.1) (0,List.replicate 24 0) e0 (by simp) (.refl _) ?_
   clear e0
   rintro⟨i,X⟩ hI
   replace hI:Hid (RdI l i X):=hI
   simp only
   have hXl:(z9b X).length=24:=by unfold z9b; rw [List.length_map,hI.out.len]
   have hXs:=sub_all hXl
   by_cases hil:i<24
   case neg=>
    obtain rfl:i=24:=by have:=hI.out.le; omega
    have hk:=hI.out.done hl
    have hX:=hI.out.len
    have hre:=z11 hX
    have fm:=fun st=>k2g (q8e X) st
    have e:Hid (ReadP L st (.ret (.tuple [(q8e X).pv,.bool (q5q (q8e X))])) st):=⟨q8e X,_,rfl,rfl,by
     unfold q8f
     rw [hd.out]
     simp only
     rw [hk]
     simp only
     by_cases hf:q5q (q8e X)=true
     ·rw [if_pos ⟨hX,hf⟩]
      exact⟨hf,rfl⟩
     ·rw [if_neg fun h=>hf h.2]
      simpa using hf⟩
    rw [hre] at hXl hXs ⊢
    clear hre hk hd hI
    repeat' (first 
     | (with_reducible refine Rets.xcall (fm _) ?_)
     | (with_reducible refine DrawLate.intro [] ?_)
     | (simp -dsimp -implicitDefEqProofs [*]))
    exact RetView.drop (st':=st) q5o e.out
   have hwi:=q5i (n:=i) (by omega)
   have hil2:i<l.length:=by omega
   have p1:=z3t (.ptr q) 24 0 i hil
   rw [Nat.zero_add] at p1
   have P1:=q6v p1
   have hpl:=z3u (.ptr q) 24 0
   have k1:=z10 l i hil2
   have K1:=q6v k1
   have n1:=z6l l i hil2
   have N1:=q6v n1
   have hrl:=k5z l
   by_cases hkd:z9a l[i]=1
   case neg=>
    have e:=Hid.mk (ReadP.no (L:=L) (st:=st) (by unfold q8f; rw [hd.out]; simp only; rw [hI.out.bad hil2 hkd]) (q8e X))
    have hre:=z11 hI.out.len
    rw [hre] at hXl hXs ⊢
    clear hre hd hI
    repeat' (first 
     | (with_reducible refine And.intro (fun h=>?_) (fun h=>?_)) <;> (try (exfalso; omega))
     | ((with_reducible refine q5v ?_ fun hk=>?_); omega)
     | (simp -dsimp -implicitDefEqProofs [*]))
    exact RetView.drop (st':=st) q5o e.out
   have hn:=Hid.mk (hI.out.next hil2 hil hkd)
   have hset:(z9b X).set i (.int (j5s l[i]))=z9b (X.set i (j5s l[i])):=by unfold z9b; rw [List.map_set]
   rw [hkd] at k1
   simp only [hkd] at K1
   obtain⟨x,hx⟩:∃ x,x=j5s l[i]:=⟨_,rfl⟩
   rw [<-hx] at n1 hset hn
   simp only [<-hx] at N1
   clear hx hkd hd hI
   repeat' (first 
    | (with_reducible refine And.intro (fun h=>?_) (fun h=>?_)) <;> (try (exfalso; omega))
    | ((with_reducible refine q5v ?_ fun hk=>?_); omega)
    | (simp -dsimp -implicitDefEqProofs [*]))
   exact Next.intro (i+1,X.set i x) hn (by simp only; omega) (by simp) q5o
open Go.Pv
set_option maxRecDepth 100000
set_option maxHeartbeats 8000000
structure Pk where
 fr:Int
 to:Int
 d:List (BitVec 8)
 deriving DecidableEq
instance:Inhabited Pk:=⟨⟨0,0,[]⟩⟩
def Pk.enc (x:Pk):List PV:=[.int x.fr,.int x.to,q53 false x.d]
abbrev Pk.pv (x:Pk):PV:=.agg x.enc
section
variable (x:Pk) (b k:Nat) (o:PObj)
@[simp] theorem Pk.len:x.enc.length=3:=rfl
@[simp] theorem Pk.sub_all:sub x.enc 0 3=some x.enc:=rfl
@[simp] theorem Pk.get0:x.enc[0]?=some (.int x.fr):=rfl
@[simp] theorem Pk.get1:x.enc[1]?=some (.int x.to):=rfl
@[simp] theorem Pk.get2:x.enc[2]?=some (q53 false x.d):=rfl
@[simp] theorem Pk.getE0 (h:0<x.enc.length):x.enc[0]'h=.int x.fr:=rfl
@[simp] theorem Pk.getE1 (h:1<x.enc.length):x.enc[1]'h=.int x.to:=rfl
@[simp] theorem Pk.getE2 (h:2<x.enc.length):x.enc[2]'h=q53 false x.d:=rfl
end
def Pk.row (l:List Pk):List PV:=l.flatMap Pk.enc
abbrev Pk.lst (t:Bool)(l:List Pk):PV:=.list t (Pk.row l) l.length
@[simp] theorem Pk.row_len (l:List Pk):(Pk.row l).length=l.length*3:=q6h Pk.enc 3 Pk.len l
@[simp] theorem Pk.row_nil:Pk.row []=[]:=rfl
@[simp] theorem Pk.row_cons (x:Pk)(l:List Pk):Pk.row (x::l)=x.enc++Pk.row l:=rfl
@[simp] theorem Pk.row_eq_nil (l:List Pk):Pk.row l=[] ↔ l=[]:=by
 constructor
 ·intro h
  have:=congrArg List.length h
  rw [Pk.row_len] at this
  cases l with
  | nil=>rfl
  | cons=>simp at this
 ·rintro rfl; rfl
theorem Pk.row_append (l m:List Pk):Pk.row (l++m)=Pk.row l++Pk.row m:=by simp [Pk.row]
@[simp] theorem Pk.row_sub (l:List Pk)(i:Nat)(h:i<l.length):sub (Pk.row l) (i*3) 3=some (l[i]).enc:=q8v Pk.enc 3 Pk.len l i h
abbrev z6m (q:List Pk):PV:=.agg [Pk.lst false q,.list false [] 0]
def k33 (a b:Int):Bool:=decide (0<=a) && decide (a<b) && decide (b<24)
def pkB (p:Pk):Bool:=k33 (min p.fr p.to) (max p.fr p.to) && decide (p.d.length<=1048576)
theorem k2h (a b:Int)(st:q5f):Rets P F.q3j [.int a,.int b] st (.agg [.int (min a b),.int (max a b)]):=by
 have e1:(if b<a then b else a)=min a b:=by rw [Int.min_def]; split <;> split <;> omega
 have e2:(if a<b then b else a)=max a b:=by rw [Int.max_def]; split <;> split <;> omega
 refine H.q3j.view q5n rfl rfl ?_
 repeat' (first 
  | (with_reducible refine Fresh.intro fun b hb=>?_) <;> (try simp -dsimp -implicitDefEqProofs [*] at hb)
  | (simp -dsimp -implicitDefEqProofs [*]))
 exact RetView.drop (st':=st) q5o ⟨rfl,rfl⟩
theorem k9s (a b:Int)(st:q5f):Rets P F.q2w [.agg [.int a,.int b]] st (.bool (k33 a b)):=by
 refine H.q2w.pure q5n rfl rfl ?_
 repeat' (first 
  | (with_reducible refine Fresh.intro fun b hb=>?_) <;> (try simp -dsimp -implicitDefEqProofs [*] at hb)
  | (with_reducible refine And.intro (fun h=>?_) (fun h=>?_)) <;> (try (exfalso; omega))
  | (simp -dsimp -implicitDefEqProofs [k33, *]))
 all_goals (intros; omega)
theorem k9t (p:Pk)(st:q5f):Rets P F.q31 [p.pv] st (.bool (pkB p)):=by
 refine H.q31.pure q5n rfl rfl ?_
 repeat' (first 
  | (with_reducible refine Fresh.intro fun b hb=>?_) <;> (try simp -dsimp -implicitDefEqProofs [*] at hb)
  | (with_reducible refine Rets.xcall (k2h _ _ _) ?_)
  | (with_reducible refine Rets.xcall (k9s _ _ _) ?_)
  | (with_reducible refine And.intro (fun h=>?_) (fun h=>?_)) <;> (try (exfalso; omega))
  | (simp -dsimp -implicitDefEqProofs [pkB, *]))
 all_goals exact⟨fun h=>by omega,fun h=>by omega⟩
theorem z9c (p:Pk)(st:q5f):Rets P F.q2s [p.pv] st (.bool (!pkB p)):=by
 have c:=fun st=>k9t p st
 refine H.q2s.pure q5n rfl rfl ?_
 repeat' (first 
  | (with_reducible refine Fresh.intro fun b hb=>?_) <;> (try simp -dsimp -implicitDefEqProofs [*] at hb)
  | (with_reducible refine Rets.xcall (c _) ?_)
  | (simp -dsimp -implicitDefEqProofs [*]))
open Go.Pv
set_option maxRecDepth 100000
set_option maxHeartbeats 8000000
theorem PLeV.tuple2 {p q p' q':PV}(h1:PLe p p')(h2:PLe q q'):PLe (.tuple [p,q]) (.tuple [p',q']):=fun I v h=>by
 simp only [vrep] at h ⊢
 obtain⟨vs,h3,h4⟩:=h
 match vs,h4 with
 | [a,b],h4=>
  simp only [vreps] at h4
  exact⟨[a,b],h3,by simp only [vreps]; exact⟨h1 I _ h4.1,h2 I _ h4.2.1,trivial⟩⟩
theorem k0y:PLe (.agg [.nil,.nil]) (z6m []):=PLeV.aggs ⟨.nil1,.nil1,trivial⟩
theorem y02 (q m:List Pk)(b cap n:Nat)(hn:(q++m).length=n)(h1:n<=cap)(h2:cap<=9223372036854775807)(C:List PV) :
  Frz b (.arr T.apiPacket (Pk.row (q++m)++C)) (.own b 0 n cap) (.list false (Pk.row (q++m)) n):=by
 have:=Frz.own (b:=b) (o:=.arr T.apiPacket (Pk.row (q++m)++C)) T.apiPacket _ 0 n cap 3 rfl h1 h2
 rwa [List.drop_zero,List.take_left' (by rw [Pk.row_len,hn])] at this
theorem Pk.row_drop (l:List Pk)(i:Nat):(Pk.row l).drop (i*3)=Pk.row (l.drop i):=k5r Pk.enc 3 Pk.len l i
theorem Pk.row_take (l:List Pk)(i:Nat):(Pk.row l).take (i*3)=Pk.row (l.take i):=z5i Pk.enc 3 Pk.len l i
end Go.Proofs.YtmlmoaimjifpgaaGreat
