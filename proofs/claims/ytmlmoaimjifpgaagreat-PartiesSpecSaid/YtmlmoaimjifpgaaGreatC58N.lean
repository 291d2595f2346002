/- Encodings by the reference: values that are well-formed. -/
import Derived.Test.YtmlmoaimjifpgaaGreatR58G
import Derived.Test.YtmlmoaimjifpgaaGreatN58E
import Derived.Test.YtmlmoaimjifpgaaGreatLCd
import Derived.Test.YtmlmoaimjifpgaaGreatD58D
namespace Go.Proofs.YtmlmoaimjifpgaaGreat
open Go.Pv Go.Pv.Sha
set_option maxRecDepth 100000
set_option maxHeartbeats 4000000
def DepthN (D:Nat)(st:q5f)(e:PEnd)(s:q5f):Prop:=∃ d:Nat,d<=D/\e=.ret (.int (d:Int))/\s=st
theorem z6q (n:Nat)(st:q5f):Rets P F.q0m [.agg (j3i n)] st (.bool true):=by
 refine H.q0m.pure q5n rfl rfl ?_
 repeat' (first 
  | (with_reducible refine Fresh.intro fun b hb=>?_) <;> (try simp -dsimp -implicitDefEqProofs [*] at hb)
  | (simp -dsimp -implicitDefEqProofs [*]))
theorem k56 (x:ByteArray)(st:q5f):Rets P F.q0m [.agg (y2v x)] st (.bool true):=by
 refine H.q0m.pure q5n rfl rfl ?_
 repeat' (first 
  | (with_reducible refine Fresh.intro fun b hb=>?_) <;> (try simp -dsimp -implicitDefEqProofs [*] at hb)
  | (simp -dsimp -implicitDefEqProofs [*]))
theorem z9f (n:Nat)(st:q5f):PCalls P F.q0q [.agg (j3i n)] st (DepthN 0 st):=by
 refine H.q0q.view q5n rfl rfl ?_
 repeat' (first 
  | (with_reducible refine Fresh.intro fun b hb=>?_) <;> (try simp -dsimp -implicitDefEqProofs [*] at hb)
  | (simp -dsimp -implicitDefEqProofs [*]))
 exact .drop q5o ⟨0,Nat.le_refl _,rfl,rfl⟩
theorem k7q (x:ByteArray)(st:q5f):PCalls P F.q0q [.agg (y2v x)] st (DepthN 0 st):=by
 refine H.q0q.view q5n rfl rfl ?_
 repeat' (first 
  | (with_reducible refine Fresh.intro fun b hb=>?_) <;> (try simp -dsimp -implicitDefEqProofs [*] at hb)
  | (simp -dsimp -implicitDefEqProofs [*]))
 exact .drop q5o ⟨0,Nat.le_refl _,rfl,rfl⟩
theorem k57 (l:List Wv)(hl:l.length<=1000)(st:q5f)(hf:∀ v ∈ l,∀ st,Rets P F.q0m [.agg v.row] st (.bool true)):Rets P F.q0m [.agg (q9x (l.flatMap Wv.row) l.length)] st (.bool true):=by
 refine H.q0m.pure q5n rfl rfl ?_
 have hfl:=q6h (enc:=Wv.row) (k:=4) (fun _=>rfl) l
 have hs:=fun i h=>q8v (enc:=Wv.row) (k:=4) (fun _=>rfl) l i h
 generalize l.flatMap Wv.row=rows at *
 repeat' (first 
  | (with_reducible refine Fresh.intro fun b hb=>?_) <;> (try simp -dsimp -implicitDefEqProofs [*] at hb)
  | (simp -dsimp -implicitDefEqProofs [*]))
 refine q5h (fun i:Nat=>[(1,.ptr b 0),(3,.int (i:Nat))]) (fun _=>(b,.arr T.apiValue (q9x rows l.length))::st) (fun i=>i<=l.length) (fun i=>l.length-i) 0 (by omega) (by simp) (.refl _) ?_
 intro i hi
 by_cases hil:i<l.length
 ·have hv:=hf l[i] (List.getElem_mem hil)
  have hs':=hs i hil
  clear hs
  have hwi:=q5i (n:=i) (by omega)
  generalize l[i]=v at *
  repeat' (first 
   | (with_reducible refine Rets.xcall (hv _) ?_)
   | (simp -dsimp -implicitDefEqProofs [*]))
  exact Next.intro (i+1) (by omega) (by omega) (by simp) q5o
 ·have e:i=l.length:=by omega
  subst e
  repeat' (simp -dsimp -implicitDefEqProofs [*])
theorem k7r (D:Nat)(hD:D<=100)(l:List Wv)(hl:l.length<=1000)(st:q5f)(hf:∀ v ∈ l,∀ st,PCalls P F.q0q [.agg v.row] st (DepthN D st)) :
  PCalls P F.q0q [.agg (q9x (l.flatMap Wv.row) l.length)] st (DepthN (D+1) st):=by
 refine H.q0q.view q5n rfl rfl ?_
 have hfl:=q6h (enc:=Wv.row) (k:=4) (fun _=>rfl) l
 have hs:=fun i h=>q8v (enc:=Wv.row) (k:=4) (fun _=>rfl) l i h
 generalize l.flatMap Wv.row=rows at *
 repeat' (first 
  | (with_reducible refine Fresh.intro fun b hb=>?_) <;> (try simp -dsimp -implicitDefEqProofs [*] at hb)
  | (simp -dsimp -implicitDefEqProofs [*]))
 refine q5h (fun y:Nat × Nat=>[(1,.ptr b 0),(3,.int (y.2:Nat)),(4,.int (y.1:Nat))]) (fun _=>(b,.arr T.apiValue (q9x rows l.length))::st) (fun y=>y.1<=l.length/\y.2<=D) (fun y=>l.length-y.1) (0,0) ⟨by omega,by omega⟩ (by simp) (.refl _) ?_
 rintro⟨i,d⟩ ⟨hi,hd⟩
 simp only at hi hd
 by_cases hil:i<l.length
 ·have hv:=hf l[i] (List.getElem_mem hil)
  have hs':=hs i hil
  clear hs hf
  have hwi:=q5i (n:=i) (by omega)
  generalize l[i]=v at *
  repeat' (simp -dsimp -implicitDefEqProofs [*])
  refine q5k (hv _) ?_
  rintro e s2 ⟨d2,hd2,rfl,rfl⟩
  rw [q5x]
  clear hv
  by_cases hdd:d<d2
  ·repeat' (simp -dsimp -implicitDefEqProofs [*])
   exact Next.intro (i+1,d2) ⟨by simp only; omega,hd2⟩ (by simp only; omega) (by simp) q5o
  ·repeat' (simp -dsimp -implicitDefEqProofs [*])
   exact Next.intro (i+1,d) ⟨by simp only; omega,hd⟩ (by simp only; omega) (by simp) q5o
 ·have e:i=l.length:=by omega
  subst e
  have hwd:=q5i (n:=d) (by omega)
  repeat' (simp -dsimp -implicitDefEqProofs [*])
  exact .drop q5o ⟨d+1,by omega,by simp,rfl⟩
open Go.Pv Go.Pv.Cd
set_option maxRecDepth 100000
set_option maxHeartbeats 8000000
theorem z9g {x:Int}(h:0<=x):(iv x).row=j3i x.toNat:=by
 have e:((x.toNat:Nat):Int)=x:=by omega
 unfold j3i
 rw [e]
 rfl
theorem k3d (c0 c1 c2 c3:PV)(D:Nat)(hD:D<=16)(st:q5f)(hf:∀ st,Rets P F.q0m [.agg [c0,c1,c2,c3]] st (.bool true))(hd:∀ st,PCalls P F.q0q [.agg [c0,c1,c2,c3]] st (DepthN D st)):Rets P F.q15 [.agg [c0,c1,c2,c3]] st (.int 0):=by
 refine H.q15.pure q5n rfl rfl ?_
 repeat' (first 
  | (with_reducible refine Fresh.intro fun b hb=>?_) <;> (try simp -dsimp -implicitDefEqProofs [*] at hb)
  | (with_reducible refine Rets.xcall (hf _) ?_)
  | (simp -dsimp -implicitDefEqProofs [*]))
 clear hf
 refine q5k (hd _) ?_
 rintro e s ⟨d,hd,rfl,rfl⟩
 rw [q5x]
 have h16:¬ (16:Int)<d:=by omega
 repeat' (simp -dsimp -implicitDefEqProofs [*])
theorem z0m (c0 c1 c2 c3:PV)(B:List (BitVec 8))(st:q5f)(hc:∀ st,Rets P F.q15 [.agg [c0,c1,c2,c3]] st (.int 0))(he:∀ st,Rets P F.q0j [.agg [c0,c1,c2,c3]] st (q53 false B)) :
  Rets P F.q2a [.agg [c0,c1,c2,c3]] st (.tuple [q53 false B,.int 0]):=by
 refine H.q2a.pure q5n rfl rfl ?_
 repeat' (first 
  | (with_reducible refine Fresh.intro fun b hb=>?_) <;> (try simp -dsimp -implicitDefEqProofs [*] at hb)
  | (with_reducible refine Rets.xcall (hc _) ?_)
  | (with_reducible refine Rets.xcall (he _) ?_)
  | (simp -dsimp -implicitDefEqProofs [*]))
theorem z0n (l:List Int)(hl:l.length<=100)(h:∀ x ∈ l,0<=x/\x<=2097152)(st:q5f) :
  Rets P F.q2a [.agg (q9x (rI l) l.length)] st (.tuple [q53 false (Vl.list (l.map .int)).enc,.int 0]):=by
 have hr:=j5q l
 have hb:=z3s l fun x hx=>(h x hx).1
 have hlen:(l.map iv).length=l.length:=List.length_map ..
 have h1:∀ v ∈ l.map iv,∀ st,Rets P F.q0m [.agg v.row] st (.bool true):=fun v hv st=>by
  obtain⟨x,hx,rfl⟩:=List.mem_map.1 hv
  rw [z9g (h x hx).1]
  exact z6q _ st
 have h2:∀ v ∈ l.map iv,∀ st,PCalls P F.q0q [.agg v.row] st (DepthN 0 st):=fun v hv st=>by
  obtain⟨x,hx,rfl⟩:=List.mem_map.1 hv
  rw [z9g (h x hx).1]
  exact z9f _ st
 have h3:∀ v ∈ l.map iv,∀ st,Rets P F.q0j [.agg v.row] st (q53 false v.B):=fun v hv st=>by
  obtain⟨x,hx,rfl⟩:=List.mem_map.1 hv
  have hx:=h x hx
  rw [z9g hx.1]
  exact j5x x.toNat (by omega) st
 have h4:∀ v ∈ l.map iv,v.B.length<=2000:=fun v hv=>by
  obtain⟨x,hx,rfl⟩:=List.mem_map.1 hv
  have hx:=h x hx
  show (1#8::k06 (2*x.toNat)).length<=2000
  have:=q69 (n:=2*x.toNat) (by omega)
  simp only [List.length_cons]
  omega
 have e1:=k57 (l.map iv) (by rw [hlen]; omega)
 have e2:=k7r 0 (by omega) (l.map iv) (by rw [hlen]; omega)
 have e3:=z12 (l.map iv) (by rw [hlen]; omega) h4 h3
 rw [hr,hlen] at e1 e2
 rw [hr,hlen,hb,q9u] at e3
 rw [Vl.enc,List.length_map]
 exact z0m _ _ _ _ _ st (fun st=>k3d _ _ _ _ 1 (by omega) st (fun st=>e1 st h1) (fun st=>e2 st h2)) fun st=>e3 st
theorem k4d (e:Event)(st:q5f):Rets P F.q23 [e.pv] st (j0n true e.ints):=by
 refine H.q23.view q5n rfl rfl ?_
 repeat' (first 
  | (with_reducible refine Fresh.intro fun b hb=>?_) <;> (try simp -dsimp -implicitDefEqProofs [*] at hb)
  | (with_reducible refine Lit.imm ?_)
  | (simp -dsimp -implicitDefEqProofs [*]))
 exact RetView.drop (st':=st) q5o ⟨rfl,rfl⟩
theorem z6r (n:Note)(st:q5f):Rets P F.q26 [n.pv] st (j0n false n.ints):=by
 refine H.q26.view q5n rfl rfl ?_
 repeat' (first 
  | (with_reducible refine Fresh.intro fun b hb=>?_) <;> (try simp -dsimp -implicitDefEqProofs [*] at hb)
  | (with_reducible refine Rets.xcall (k4d _ _) ?_)
  | (with_reducible refine DrawLate.intro [] ?_)
  | (simp -dsimp -implicitDefEqProofs [-q5g, *]))
 revert b; intro bd hbd
 have hsz:(q50 (none:Option (Acc Int))).length=0:=rfl
 refine q9i (bytes:=8) (n:=1) k3s q95 [n.kind] n.ev.ints rfl rfl rfl (by show 0<9; omega) (by show (1+9)*8<=_; omega) fun o ho hol=>?_
 refine q6f (q7p ho (Cls.self _ _)) ?_
 have g1:=k0w (T:=T.int) ho (b:=bd) (x:=.arr T.apiDecision n.dec.enc) (by simp [*])
 have kl:Hid (q50 o=n.kind::n.ev.ints):=⟨hol⟩
 have hol2:(q50 o).length=10:=by rw [hol]; rfl
 clear hol
 repeat' (first 
  | (with_reducible refine Lit.imm ?_)
  | (simp -dsimp -implicitDefEqProofs [-q5g, *]))
 refine q9t k3s q95 o ho [n.dec.no,n.dec.known,n.dec.kind,n.dec.target,n.dec.value] rfl rfl (by omega) (by rw [hol2]; omega) fun o2 ho2 hl2=>?_
 have g2:=k0w (T:=T.int) ho2 (b:=bd) (x:=.arr T.apiDecision n.dec.enc) (by simp [*])
 have kl2:Hid (q50 o2=n.kind::(n.ev.ints++[n.dec.no,n.dec.known,n.dec.kind,n.dec.target,n.dec.value])):=⟨by rw [hl2,kl.out]; rfl⟩
 have hol3:(q50 o2).length=15:=by rw [kl2.out]; rfl
 clear hl2 kl hol2 g1 ho
 repeat' (first 
  | (with_reducible refine Rets.xcall (k4d _ _) ?_)
  | (simp -dsimp -implicitDefEqProofs [-q5g, *]))
 refine q9t k3s q95 o2 ho2 n.dec.event.ints rfl rfl (by show 0<9; omega) (by rw [hol3]; show (15+9)*8<=_; omega) fun o3 ho3 hl3=>?_
 have kl3:Hid (q50 o3=n.ints):=⟨by rw [hl3,kl2.out]; rfl⟩
 clear hl3 kl2 hol3 g2 ho2
 repeat' (simp -dsimp -implicitDefEqProofs [-q5g, *])
 exact RetView.accP1 rfl ho3 (.drop q5o ⟨by rw [kl3.out],rfl⟩)
theorem q96 (n:Note)(hn:q5q n=true)(st:q5f):Rets P F.q1p [n.pv] st (q53 false (msg n)):=by
 have hs:=k0v hn
 have he:=fun st=>z0n n.ints (by simp) hs st
 refine H.q1p.view q5n rfl rfl ?_
 repeat' (first 
  | (with_reducible refine Fresh.intro fun b hb=>?_) <;> (try simp -dsimp -implicitDefEqProofs [*] at hb)
  | (with_reducible refine Rets.xcall (z6r _ _) ?_)
  | (simp -dsimp -implicitDefEqProofs [*]))
 have hil24:n.ints.length=24:=rfl
 revert b; intro bv hbv
 refine q5h (fun y:Nat × Option (Acc Int)=>[(3,.ptr bv 0),(4,j0n false n.ints),(5,.int y.1)]) (fun y=>(bv,.arr T.apiValue [.int 3,.int 0,q64,q7s y.2])::q6e T.apiValue ((b,.arr T.apiNote n.enc)::st) y.2) (fun y=>y.1<=24/\accOk rI 4 ((bv,.arr 0 [])::(b,.arr T.apiNote n.enc)::st) y.2/\Hid (q50 y.2=n.ints.take y.1)) (fun y=>24-y.1) (0,none) ⟨Nat.zero_le _,trivial,⟨rfl⟩⟩ (by simp) (.refl _) ?_
 rintro⟨i,o⟩ ⟨hi,ho,hol⟩
 replace hi:i<=24:=hi
 replace ho:accOk rI 4 ((bv,.arr 0 [])::(b,.arr T.apiNote n.enc)::st) o:=ho
 replace hol:Hid (q50 o=n.ints.take i):=hol
 simp only
 by_cases hil:i<24
 case neg=>
  obtain rfl:i=24:=by omega
  have hL:q50 o=n.ints:=hol.out
  have he2:∀ st,Rets P F.q2a [.agg [.int 3,.int 0,q64,.list false (rI n.ints) 24]] st (.tuple [q53 false (msg n),.int 0]):=he
  clear he hol
  cases o with
  | none=>exact absurd (congrArg List.length hL) (by rw [hil24]; simp)
  | some a=>
   obtain⟨ha,hb2⟩:=ho
   replace hL:a.l=n.ints:=hL
   have hfr:=Frz.acc (T:=T.apiValue) ha
   rw [hL] at hfr
   rw [hil24] at hfr
   have hl24:a.l.length=24:=by rw [hL,hil24]
   repeat' (simp -dsimp -implicitDefEqProofs [*])
   simp only [q7j] at hb2
   refine k88 (b:=a.b) (o:=.arr T.apiValue a.R) (st':=st) hb2.2.2 q5o (.cons (.agg (.cons (.refl _) (.cons (.refl _) (.cons (.refl _) (.cons hfr .nil))))) .nil) (he2 _) ?_
   clear hfr he2 ha
   repeat' (simp -dsimp -implicitDefEqProofs [*])
   exact RetView.drop (st':=st) q5o ⟨rfl,rfl⟩
 have hwi:=q5i (n:=i) (by omega)
 have q1:(q7z n.ints)[i]?=some (.int n.ints[i]):=j17 _ _ _
 have Q1:=q6v q1
 have hx:Hid (n.ints.take (i+1)=n.ints.take i++[n.ints[i]]):=⟨List.take_succ_eq_append_getElem (by simpa using hil)⟩
 obtain⟨x,hxd⟩:∃ x,x=n.ints[i]:=⟨_,rfl⟩
 rw [<-hxd] at q1 hx
 simp only [<-hxd] at Q1
 clear hs he hxd
 cases o with
 | none=>
  have hi0:i=0:=by have:=congrArg List.length hol.out; rw [List.length_take] at this; simp at this; omega
  subst hi0
  repeat' (simp -dsimp -implicitDefEqProofs [*])
  refine DrawLate.by (fun _=>True) trivial ?_
  repeat' (simp -dsimp -implicitDefEqProofs [*])
  refine q9s j1c [x] rfl rfl (by omega) (by omega) fun a ha hl hb2=>?_
  simp only [q7j] at hb2
  refine⟨trivial, ?_⟩
  have hw1:IntKind.i64.wrap 1=1:=rfl
  repeat' (simp -dsimp -implicitDefEqProofs [*])
  have hl1:a.l.length=1:=by rw [hl]; rfl
  refine Next.intro (1,some a) ⟨by simp only; omega,⟨ha,by simp [*]⟩,⟨by rw [hx.out]; exact hl⟩⟩ (by simp only; omega) (by simp) ?_
  show StLe ((bv,.arr T.apiValue [.int 3,.int 0,q64,.own a.b 0 a.l.length a.cap])::(a.b,.arr T.apiValue a.R)::(b,.arr T.apiNote n.enc)::st) _
  rw [hl1]
  exact StLe.swap hb2.1.1
 | some a=>
  obtain⟨ha,hb2⟩:=ho
  have hal:a.l.length=i:=by have:=congrArg List.length hol.out; rw [List.length_take,hil24] at this; simp at this; omega
  simp only [q7j] at hb2
  repeat' (first 
   | (with_reducible refine And.intro (fun h=>?_) (fun h=>?_)) <;> (try (exfalso; omega))
   | (simp -dsimp -implicitDefEqProofs [*]))
  refine DrawLate.by (fun _=>True) trivial ?_
  repeat' (simp -dsimp -implicitDefEqProofs [*])
  rw [<-hal]
  refine q8l j1c z6k ha (by simp [*]) [x] rfl rfl (by omega) fun a' ha' hl hb3=>?_
  have kl:Hid (a'.l=n.ints.take (i+1)):=⟨by rw [hl,hx.out]; exact congrArg (·++[x]) hol.out⟩
  have hl2:a'.l.length=i+1:=by rw [hl,List.length_append,hal]; rfl
  simp -dsimp -implicitDefEqProofs [*] at hb3
  refine⟨trivial, ?_⟩
  clear hl
  repeat' (simp -dsimp -implicitDefEqProofs [*])
  refine Next.intro (i+1,some a') ⟨by simp only; omega,⟨ha',by simp [*]⟩,kl⟩ (by simp only; omega) (by simp) ?_
  show StLe ((bv,.arr T.apiValue [.int 3,.int 0,q64,.own a'.b 0 a'.l.length a'.cap])::(a'.b,.arr T.apiValue a'.R)::(b,.arr T.apiNote n.enc)::st) _
  rw [hl2]
  exact StLe.swap hb3.1.1
theorem y2x (t:Bool)(l:List (BitVec 8))(st:q5f)(K:PV->Prop):q7c (.strOf (.const (q53 t l))) (q57 []) st K=K (.str (k60 l)):=by
 show (match q6s 1 st (q53 t l) with | some (cs,_)=>(match q8t cs with | some bs=>K (.str ⟨bs.toArray⟩) | none=>False) | none=>False)=_
 have:q6s 1 st (q53 t l)=some (q5p l,l.length):=by
  show (if (q5p l).length=l.length*1 then some (q5p l,l.length) else none)=_
  rw [if_pos (by rw [q6u])]
 rw [this]
 simp only [q9h]
 rfl
theorem q77 {P:Program}{Cl:q5f->Prop}{K1 QP:PV->q5f->Prop}{e:Env}{st:q5f}(x:MX)(t:Bool)(l:List (BitVec 8))(hx:q57 e x=q53 t l)(h:K1 (.str (k60 l)) st):k43 P Cl .late (.val (.strOf x)) e st K1 QP:=by
 refine⟨.str (k60 l),fun s _=>?_,h⟩
 have:=y2x t l s (fun q=>q=.str (k60 l))
 rw [<-hx] at this
 exact this.symm ▸ rfl
theorem z13 (a:Note):(k60 (msg a)).toList=toU (msg a):=by
 rw [ByteArray.toList_eq]
 rfl
theorem z3x (a b:Note):Op.bytesLess (k60 (msg a)).toList (k60 (msg b)).toList=decide (q6p a b<0):=by
 rw [z13,z13,z1s]
 rfl
theorem k41 (x y:Note)(hx:q5q x=true)(hy:q5q y=true)(st:q5f):Rets P F.q2v [x.pv,y.pv] st (.bool (decide (q6p x y<0))):=by
 have ma:=fun st=>q96 x hx st
 have mb:=fun st=>q96 y hy st
 have hc:=z3x x y
 refine H.q2v.pure q5n rfl rfl ?_
 repeat' (first 
  | (with_reducible refine Fresh.intro fun b hb=>?_) <;> (try simp -dsimp -implicitDefEqProofs [*] at hb)
  | (with_reducible refine Rets.xcall (ma _) ?_)
  | (with_reducible refine DrawLate.intro [] ?_)
  | (simp -dsimp -implicitDefEqProofs [*]))
 refine q77 (MX.tmp 6) false (msg x) rfl ?_
 repeat' (first 
  | (with_reducible refine Rets.xcall (mb _) ?_)
  | (simp -dsimp -implicitDefEqProofs [*]))
 refine q77 (MX.tmp 9) false (msg y) rfl ?_
 repeat' (simp -dsimp -implicitDefEqProofs [*])
open Go.Pv Go.Pv.Cd
set_option maxRecDepth 100000
set_option maxHeartbeats 4000000
theorem z6s (n:Int)(hn:-9223372036854775808<=n/\n<9223372036854775808)(st:q5f):Rets P F.q11 [.int n] st (.val (.int .u64 (zig n:Nat))):=by
 refine H.q11.pure q5n rfl rfl ?_
 by_cases h0:0<=n
 ·have e:zig n=2*n.toNat:=by unfold zig; rw [if_pos h0]
  have h1:IntKind.u64.wrap n=n:=q7n (by omega) (by omega)
  have h2:IntKind.u64.wrap (2*n)=2*n:=q7n (by omega) (by omega)
  repeat' (simp -dsimp -implicitDefEqProofs [*])
  all_goals omega
 ·have e:zig n=2*(-(n+1)).toNat+1:=by unfold zig; rw [if_neg h0]
  have h1:IntKind.i64.wrap (n+1)=n+1:=q5l (by omega) (by omega)
  have h2:IntKind.i64.wrap (-(n+1))=-(n+1):=q5l (by omega) (by omega)
  have h3:IntKind.u64.wrap (-(n+1))=-(n+1):=q7n (by omega) (by omega)
  have h4:IntKind.u64.wrap (2 * -(n+1))=2 * -(n+1):=q7n (by omega) (by omega)
  have h5:IntKind.u64.wrap (2 * -(n+1)+1)=2 * -(n+1)+1:=q7n (by omega) (by omega)
  repeat' (simp -dsimp -implicitDefEqProofs [*])
  all_goals omega
theorem z14 (n:Int)(hn:-9223372036854775808<=n/\n<9223372036854775808)(st:q5f):Rets P F.q0j [.agg [.int 1,.int n,q64,.nil]] st (q53 false (Vl.int n).enc):=by
 refine H.q0j.view q5n rfl rfl ?_
 have hu:=fun st=>z6s n hn st
 have hz:=j46 hn
 have hm:=fun st=>k31 (zig n) hz st
 have hnl:=q69 (n:=zig n) hz
 have hnp:=k55 (zig n)
 rw [Vl.enc,<-q9u]
 generalize k06 (zig n)=E at *
 generalize zig n=u at *
 repeat' (first 
  | (with_reducible refine Fresh.intro fun b hb=>?_) <;> (try simp -dsimp -implicitDefEqProofs [*] at hb)
  | (with_reducible refine Rets.xcall (hu _) ?_)
  | (with_reducible refine Rets.xcall (hm _) ?_)
  | (with_reducible refine Lit.imm ?_)
  | (simp -dsimp -implicitDefEqProofs [-q5g, *]))
 refine q9i (bytes:=1) (n:=1) q6u q5y [1#8] E rfl rfl rfl hnp (by omega) fun o ho hol=>?_
 have kl:Hid (q50 o=1#8::E):=⟨hol⟩
 clear hol
 repeat' (simp -dsimp -implicitDefEqProofs [-q5g, *])
 exact RetView.accP1 rfl ho (.drop q5o ⟨by rw [kl.out],rfl⟩)
theorem j5y (s:List (BitVec 8)):y7v (k60 s)=s:=by
 show ((s.map UInt8.ofBitVec).toArray).toList.map (·.toBitVec)=s
 have e:((fun x:UInt8=>x.toBitVec) ∘ UInt8.ofBitVec)=id:=funext fun x=>rfl
 simp [e]
theorem k1o (s:List (BitVec 8)):(k60 s).size=s.length:=by
 show ((s.map UInt8.ofBitVec).toArray).size=s.length
 simp
theorem k9u (s:List (BitVec 8))(hs:s.length<=1000)(st:q5f):Rets P F.q0j [.agg (q6t (.text s))] st (q53 false (Vl.text s).enc):=by
 have h:=j2p (k60 s) (by rw [k1o]; exact hs) st
 rw [k1o,j5y,q9u] at h
 exact h
theorem z6t:∀ l:List Vl,(l.map z3w).flatMap Wv.B=Vl.encs l
 | []=>rfl
 | v::l=>by
  show (z3w v).B++(l.map z3w).flatMap Wv.B=_
  rw [z6t l,Vl.encs]
  cases v <;> rfl
theorem k58:∀ (l:List Vl) (v:Vl),v ∈ l->v.enc.length<=(Vl.encs l).length
 | [],_,h=>nomatch h
 | w::l,v,h=>by
  rw [Vl.encs,List.length_append]
  rcases List.mem_cons.1 h with h | h
  ·subst h; omega
  ·have:=k58 l v h; omega
theorem k8d:∀ (d:Nat) (l:List Vl),Vl.fits d l->∀ v ∈ l,Vl.fit d v
 | _,[],_,_,h=>nomatch h
 | d,w::l,hf,v,h=>by
  rw [Vl.fits] at hf
  rcases List.mem_cons.1 h with h | h
  ·subst h; exact hf.1
  ·exact k8d d l hf.2 v h
theorem y03 (v:Vl):(z3w v).B=v.enc:=by cases v <;> rfl
theorem k3e (l:List Vl):l.length<=(Vl.list l).enc.length/\(Vl.encs l).length<=(Vl.list l).enc.length:=by
 have:=Vl.encs_len l
 rw [Vl.enc,List.length_cons,List.length_append]
 omega
theorem y2y:∀ (d:Nat) (v:Vl),Vl.fit d v->v.enc.length<=1000->∀ st,Rets P F.q0j [.agg (q6t v)] st (q53 false v.enc):=by
 intro d
 induction d with
 | zero=>
  intro v hf hl st
  cases v with
  | int n=>exact z14 n (by simpa [Vl.fit] using hf) st
  | text s=>exact k9u s (by rw [Vl.enc] at hl; simp at hl; omega) st
  | list l=>simp [Vl.fit] at hf
 | succ d ih=>
  intro v hf hl st
  cases v with
  | int n=>exact z14 n (by simpa [Vl.fit] using hf) st
  | text s=>exact k9u s (by rw [Vl.enc] at hl; simp at hl; omega) st
  | list l=>
   have hf2:=(show l.length<18446744073709551616/\Vl.fits d l by simpa [Vl.fit] using hf).2
   have hll:=k3e l
   have h:=z12 (l.map z3w) (by rw [List.length_map]; omega) (fun w hw=>by
    obtain⟨v,hv,rfl⟩:=List.mem_map.1 hw
    rw [y03]
    have:=k58 l v hv
    omega) (fun w hw st=>by
    obtain⟨v,hv,rfl⟩:=List.mem_map.1 hw
    rw [y03,k52]
    exact ih v (k8d d l hf2 v hv) (by have:=k58 l v hv; omega) st) st
   rw [z6t,List.length_map,q9u] at h
   have e:(l.map z3w).flatMap Wv.row=q81 l:=k54 l
   rw [e] at h
   exact h
theorem k59 (n:Int)(st:q5f):Rets P F.q0m [.agg [.int 1,.int n,q64,.nil]] st (.bool true):=by
 refine H.q0m.pure q5n rfl rfl ?_
 repeat' (first 
  | (with_reducible refine Fresh.intro fun b hb=>?_) <;> (try simp -dsimp -implicitDefEqProofs [*] at hb)
  | (simp -dsimp -implicitDefEqProofs [*]))
theorem k7s (d:Nat)(n:Int)(st:q5f):PCalls P F.q0q [.agg [.int 1,.int n,q64,.nil]] st (DepthN d st):=by
 refine H.q0q.view q5n rfl rfl ?_
 repeat' (first 
  | (with_reducible refine Fresh.intro fun b hb=>?_) <;> (try simp -dsimp -implicitDefEqProofs [*] at hb)
  | (simp -dsimp -implicitDefEqProofs [*]))
 exact .drop q5o ⟨0,Nat.zero_le _,rfl,rfl⟩
theorem j2q:∀ (d:Nat) (v:Vl),Vl.fit d v->v.enc.length<=1000->∀ st,Rets P F.q0m [.agg (q6t v)] st (.bool true):=by
 intro d
 induction d with
 | zero=>
  intro v hf hl st
  cases v with
  | int n=>exact k59 n st
  | text s=>exact k56 (k60 s) st
  | list l=>simp [Vl.fit] at hf
 | succ d ih=>
  intro v hf hl st
  cases v with
  | int n=>exact k59 n st
  | text s=>exact k56 (k60 s) st
  | list l=>
   have hf2:=(show l.length<18446744073709551616/\Vl.fits d l by simpa [Vl.fit] using hf).2
   have hll:=k3e l
   have h:=k57 (l.map z3w) (by rw [List.length_map]; omega) st (fun w hw st=>by
    obtain⟨v,hv,rfl⟩:=List.mem_map.1 hw
    rw [k52]
    exact ih v (k8d d l hf2 v hv) (by have:=k58 l v hv; omega) st)
   rw [List.length_map,show (l.map z3w).flatMap Wv.row=q81 l from k54 l] at h
   exact h
theorem DepthN.more {D E:Nat}{st:q5f}{e:PEnd}{s:q5f}(h:DepthN D st e s)(hDE:D<=E):DepthN E st e s:=by
 obtain⟨d,h1,h2⟩:=h
 exact⟨d,by omega,h2⟩
theorem j5z:∀ (d:Nat) (v:Vl),d<=16->Vl.fit d v->v.enc.length<=1000->∀ st,PCalls P F.q0q [.agg (q6t v)] st (DepthN d st):=by
 intro d
 induction d with
 | zero=>
  intro v hd hf hl st
  cases v with
  | int n=>exact k7s 0 n st
  | text s=>exact k7q (k60 s) st
  | list l=>simp [Vl.fit] at hf
 | succ d ih=>
  intro v hd hf hl st
  cases v with
  | int n=>exact k7s (d+1) n st
  | text s=>exact PCalls.mono (k7q (k60 s) st) fun e s h=>h.more (by omega)
  | list l=>
   have hf2:=(show l.length<18446744073709551616/\Vl.fits d l by simpa [Vl.fit] using hf).2
   have hll:=k3e l
   have h:=k7r d (by omega) (l.map z3w) (by rw [List.length_map]; omega) st (fun w hw st=>by
    obtain⟨v,hv,rfl⟩:=List.mem_map.1 hw
    rw [k52]
    exact ih v (by omega) (k8d d l hf2 v hv) (by have:=k58 l v hv; omega) st)
   rw [List.length_map,show (l.map z3w).flatMap Wv.row=q81 l from k54 l] at h
   exact h
theorem j50 (v:Vl)(hf:Vl.fit 16 v)(hl:v.enc.length<=1000)(st:q5f):Rets P F.q15 [.agg (q6t v)] st (.int 0):=by
 have h1:=j2q 16 v hf hl
 have h2:=j5z 16 v (by omega) hf hl
 have H0:∃ a b c d,q6t v=[a,b,c,d]:=by cases v <;> exact⟨_,_,_,_,rfl⟩
 obtain⟨a,b,c,d,hv⟩:=H0
 rw [hv] at h1 h2 ⊢
 exact k3d a b c d 16 (by omega) st h1 h2
open Go.Pv Go.Pv.Cd
set_option maxRecDepth 100000
set_option maxHeartbeats 8000000
theorem z9h {L:List (BitVec 8)}{v:Vl}{r:List (BitVec 8)}(h:decV 16 L=some (v,r)):j1a L=(if r=[] then q6t v else v0)/\j1b L=(if r=[] then 0 else 10):=by
 unfold j1a j1b Go.Pv.Cd.decode
 rw [h]
 cases r <;> simp
theorem z9i {L:List (BitVec 8)}(h:decV 16 L=none):j1a L=v0/\j1b L=10:=by
 unfold j1a j1b Go.Pv.Cd.decode
 rw [h]
 exact⟨rfl,rfl⟩
theorem z0o (L:List (BitVec 8))(hL:L.length<=1000)(st:q5f):Rets P F.q3a [q53 false L] st (.tuple [.agg (j1a L),.int (j1b L)]):=by
 have vs:=z9d 16 (by omega) L (by omega) 0 (by omega)
 rw [show (16:Int)-((16:Nat):Int)=0 by decide] at vs
 refine H.q3a.view q5n rfl rfl ?_
 repeat' (first 
  | (with_reducible refine Fresh.intro fun b hb=>?_) <;> (try simp -dsimp -implicitDefEqProofs [*] at hb)
  | (simp -dsimp -implicitDefEqProofs [*]))
 refine q5k (vs b _ hb) ?_
 clear vs
 intro en s h
 unfold ValR at h
 rw [List.drop_zero] at h
 cases hd:decV 16 L with
 | none=>
  rw [hd] at h
  obtain⟨a',ha',⟨q,e1⟩,e2⟩:=h
  subst e1
  subst e2
  obtain⟨c1,c2⟩:=z9i hd
  rw [c1,c2]
  clear hd c1 c2
  repeat' (first 
   | (with_reducible refine Fresh.intro fun b hb=>?_) <;> (try simp -dsimp -implicitDefEqProofs [*] at hb)
   | (with_reducible refine DrawLate.intro [] ?_)
   | (simp -dsimp -implicitDefEqProofs [*]))
  exact RetView.drop (st':=st) q5o ⟨rfl,rfl⟩
 | some t=>
  obtain⟨v,r⟩:=t
  rw [hd] at h
  obtain⟨a',ha',hr,e1,e2⟩:=h
  subst e1
  subst e2
  obtain⟨c1,c2⟩:=z9h hd
  rw [c1,c2]
  obtain⟨hi,hfit⟩:=z3h 16 L v r hd
  have H0:∃ w1 w2 w3 w4,q6t v=[w1,w2,w3,w4]:=by cases v <;> exact⟨_,_,_,_,rfl⟩
  by_cases h0:r=[]
  case neg=>
   have hne:¬ (a':Int)=L.length:=fun h=>h0 (by
    rw [<-hr,show a'=L.length by omega,List.drop_length])
   rw [if_neg h0,if_neg h0]
   obtain⟨w1,w2,w3,w4,hW⟩:=H0
   rw [hW]
   clear hd hi hfit c1 c2 hr hW
   repeat' (first 
    | (with_reducible refine Fresh.intro fun b hb=>?_) <;> (try simp -dsimp -implicitDefEqProofs [*] at hb)
    | (with_reducible refine DrawLate.intro [] ?_)
    | (simp -dsimp -implicitDefEqProofs [*]))
   exact RetView.drop (st':=st) q5o ⟨rfl,rfl⟩
  subst h0
  rw [List.append_nil] at hi
  have hal:a'=L.length:=by
   have:=congrArg List.length hr
   rw [List.length_drop] at this
   simp at this
   omega
  subst hal
  have ck:=fun st=>j50 v hfit (by rw [<-hi]; exact hL) st
  have en:=fun st=>y2y 16 v hfit (by rw [<-hi]; exact hL) st
  rw [<-hi] at en
  rw [if_pos rfl,if_pos rfl]
  obtain⟨w1,w2,w3,w4,hW⟩:=H0
  rw [hW] at ck en ⊢
  clear hd hi hfit c1 c2 hr hW
  repeat' (first 
   | (with_reducible refine Fresh.intro fun b hb=>?_) <;> (try simp -dsimp -implicitDefEqProofs [*] at hb)
   | (with_reducible refine Rets.xcall (ck _) ?_)
   | (with_reducible refine DrawLate.intro [] ?_)
   | (simp -dsimp -implicitDefEqProofs [*]))
  refine q77 (MX.tmp 33) false L rfl ?_
  repeat' (first 
   | (with_reducible refine Rets.xcall (en _) ?_)
   | (simp -dsimp -implicitDefEqProofs [*]))
  refine q77 (MX.tmp 31) false L rfl ?_
  repeat' (simp -dsimp -implicitDefEqProofs [*])
  exact RetView.drop (st':=st) q5o ⟨rfl,rfl⟩
end Go.Proofs.YtmlmoaimjifpgaaGreat
