/- Decoding. -/
import Derived.Test.YtmlmoaimjifpgaaGreatC58J
import Derived.Test.YtmlmoaimjifpgaaGreatN58A
import Derived.Test.YtmlmoaimjifpgaaGreatS58A
import Derived.Lib.Bytealg
import Derived.Lib.Strings
import Derived.WalkKit
namespace Go.Proofs.YtmlmoaimjifpgaaGreat
open Go.Pv Go.Pv.Cd
set_option maxRecDepth 100000
set_option maxHeartbeats 8000000
theorem j8y (v e:Nat)(st:q5c):Defs P F.q2v [.ptr v 0,.ptr e 0] .returning st .returning st:=by
 refine H.q2v.defs q5l rfl rfl ?_
 repeat' (simp -dsimp -implicitDefEqProofs [*])
theorem j1j (v e:Nat)(a b c d:PV)(m:Int)(st:q5c)(hne:¬ v=e/\¬ e=v):Defs P F.q2v [.ptr v 0,.ptr e 0] (.panicking q8s) ((e,.arr T.apiErrno [.int m])::(v,.arr T.apiValue [a,b,c,d])::st) .returning ((e,.arr T.apiErrno [.int 10])::(v,.arr T.apiValue v0)::st):=by
 refine H.q2v.defs q5l rfl rfl ?_
 repeat' (first 
  | (with_reducible refine DrawLate.intro [] ?_)
  | (simp -dsimp -implicitDefEqProofs [q8s, *]))
def j1k (L:List (BitVec 8)):List PV:=match Go.Pv.Cd.decode L with
 | some v=>q6n v
 | none=>v0
def j1l (L:List (BitVec 8)):Int:=match Go.Pv.Cd.decode L with
 | some _=>0
 | none=>10
theorem z9d (L:List (BitVec 8))(hL:L.length<=100000)(st:q5c):Rets P F.q4k [q54 false L] st (.tuple [.agg (j1k L),.int (j1l L)]):=by
 have vs:=j2y 16 (by omega) L hL
 rw [show (16:Int)-((16:Nat):Int)=0 by decide] at vs
 refine H.q4k.view q5l rfl rfl ?_
 repeat' (first 
  | (with_reducible refine Fresh.intro fun b hb=>?_) <;> (try simp -dsimp -implicitDefEqProofs [*] at hb)
  | (simp -dsimp -implicitDefEqProofs [H.q2v.enters, *]))
 rename_i v hv e he
 refine q5h (vs b _ hb) ?_
 clear vs
 intro en s h
 unfold ValP at h
 cases hd:decV 16 L with
 | none=>
  rw [hd] at h
  obtain⟨e1,e2⟩:=h
  subst e1
  subst e2
  have c1:j1k L=v0:=by unfold j1k Go.Pv.Cd.decode; rw [hd]
  have c2:j1l L=10:=by unfold j1l Go.Pv.Cd.decode; rw [hd]
  rw [c1,c2]
  clear hd c1 c2
  repeat' (simp -dsimp -implicitDefEqProofs [q8v, *])
  refine Defs.xdef (j1j v e _ _ _ _ 0 st he.1) ?_
  repeat' (simp -dsimp -implicitDefEqProofs [q8v, *])
  exact RetView.drop (st':=st) q5m ⟨rfl,rfl⟩
 | some q=>
  obtain⟨w,R⟩:=q
  rw [hd] at h
  obtain⟨e1,e2⟩:=h
  subst e1
  subst e2
  cases R with
  | nil=>
   have c1:j1k L=q6n w:=by unfold j1k Go.Pv.Cd.decode; rw [hd]
   have c2:j1l L=0:=by unfold j1l Go.Pv.Cd.decode; rw [hd]
   rw [c1,c2]
   have hc:=k3q w
   generalize q6n w=W at *
   have hsub:=sub_all hc
   clear hd c1 c2
   repeat' (first 
    | (with_reducible refine Rets.xcall (k4s _ _) ?_)
    | (with_reducible refine Defs.xdef (j8y _ _ _) ?_)
    | (simp -dsimp -implicitDefEqProofs [q8v, *]))
   exact RetView.drop (st':=st) q5m ⟨rfl,rfl⟩
  | cons c R=>
   have c1:j1k L=v0:=by unfold j1k Go.Pv.Cd.decode; rw [hd]
   have c2:j1l L=10:=by unfold j1l Go.Pv.Cd.decode; rw [hd]
   rw [c1,c2]
   have hc:=k3q w
   generalize q6n w=W at *
   have hn:¬ (R.length:Int)+1=0:=by omega
   obtain⟨w1,w2,w3,w4,hW⟩:∃ a b c d,W=[a,b,c,d]:=by
    match W,hc with
    | [a,b,c,d],_=>exact⟨_,_,_,_,rfl⟩
   subst hW
   clear hd c1 c2 hc
   repeat' (first 
    | (with_reducible refine Panics.xcall (k4t _ _) ?_)
    | (simp -dsimp -implicitDefEqProofs [q8v, *]))
   refine Defs.xdef (PDef.le (by exact StLe.fresh (by exact hb)) (j1j v e _ _ _ _ 0 st he.1)) ?_
   repeat' (simp -dsimp -implicitDefEqProofs [q8v, *])
   exact RetView.drop (st':=st) q5m ⟨rfl,rfl⟩
open Go.Pv Go.Pv.Sha
set_option maxRecDepth 100000
set_option maxHeartbeats 4000000
def k9p (D:Nat)(st:q5c)(e:PEnd)(s:q5c):Prop:=∃ d:Nat,d<=D/\e=.ret (.tuple [.int (d:Int),.bool true])/\s=st
theorem j5z (n:Nat)(st:q5c):PCalls P F.q2j [.agg (j3t n)] st (k9p 0 st):=by
 refine H.q2j.view q5l rfl rfl ?_
 by_cases hn:n=0
 ·subst hn
  repeat' (first 
   | (with_reducible refine Fresh.intro fun b hb=>?_) <;> (try simp -dsimp -implicitDefEqProofs [*] at hb)
   | (simp -dsimp -implicitDefEqProofs [*]))
  exact .drop q5m ⟨0,Nat.le_refl _,rfl,rfl⟩
 ·have hn':¬ (n:Int)=0:=by omega
  repeat' (first 
   | (with_reducible refine Fresh.intro fun b hb=>?_) <;> (try simp -dsimp -implicitDefEqProofs [*] at hb)
   | (simp -dsimp -implicitDefEqProofs [*]))
  exact .drop q5m ⟨0,Nat.le_refl _,rfl,rfl⟩
theorem j2z (D:Nat)(l:List Wv)(hl0:0<l.length)(hl:l.length<=100)(hD:D<=10)(st:q5c)(hf:∀ v ∈ l,∀ st,PCalls P F.q2j [.agg v.row] st (k9p D st)):PCalls P F.q2j [.agg (q9o (l.flatMap Wv.row) l.length)] st (k9p (D+1) st):=by
 refine H.q2j.view q5l rfl rfl ?_
 have h0':¬ (l.length:Int)=0:=by omega
 repeat' (first 
  | (with_reducible refine Fresh.intro fun b hb=>?_) <;> (try simp -dsimp -implicitDefEqProofs [*] at hb)
  | (simp -dsimp -implicitDefEqProofs [*]))
 refine q5e (fun y:Nat × Nat=>[(2,.int (y.2:Nat)),(55,.list false (l.flatMap Wv.row) l.length),(56,.int l.length),(57,.int (y.1:Nat))]) (fun _=>st) (fun y=>y.1<=l.length/\y.2<=D) (fun y=>l.length-y.1) (0,0) ⟨by omega,by omega⟩ (by simp) q5m ?_
 rintro⟨i,d⟩ ⟨hi,hd⟩
 simp only at hi hd
 by_cases hil:i<l.length
 ·have hv:=hf l[i] (List.getElem_mem hil)
  have hs:=q7i (enc:=Wv.row) (k:=4) (fun _=>rfl) l i hil
  have hfl:=q53 (enc:=Wv.row) (k:=4) (fun _=>rfl) l
  have hwi:=q5f (n:=i) (by omega)
  generalize l[i]=v at *
  generalize hrows:l.flatMap Wv.row=rows at *
  repeat' (first 
   | (with_reducible refine Fresh.intro fun b hb=>?_) <;> (try simp -dsimp -implicitDefEqProofs [*] at hb)
   | (simp -dsimp -implicitDefEqProofs [*]))
  refine q5h (hv _) ?_
  rintro e s2 ⟨d2,hd2,rfl,rfl⟩
  rw [q5v]
  clear hv
  by_cases hdd:d<d2
  ·repeat' (simp -dsimp -implicitDefEqProofs [*])
   exact Next.intro (i+1,d2) ⟨by simp only; omega,hd2⟩ (by simp only; omega) (by simp) q5m
  ·repeat' (simp -dsimp -implicitDefEqProofs [*])
   exact Next.intro (i+1,d) ⟨by simp only; omega,hd⟩ (by simp only; omega) (by simp) q5m
 ·have e:i=l.length:=by omega
  subst e
  have hwd:=q5f (n:=d) (by omega)
  repeat' (simp -dsimp -implicitDefEqProofs [*])
  exact .same ⟨d+1,by omega,by simp,rfl⟩
open Go.Pv Go.Pv.Sha
set_option maxRecDepth 100000
set_option maxHeartbeats 4000000
theorem k9q (c0 c1 c2 c3:PV)(D:Nat)(hD:D<=16)(st:q5c)(hf:∀ st,PCalls P F.q2j [.agg [c0,c1,c2,c3]] st (k9p D st)):Rets P F.q4o [.agg [c0,c1,c2,c3]] st (.int 0):=by
 refine H.q4o.pure q5l rfl rfl ?_
 repeat' (first 
  | (with_reducible refine Fresh.intro fun b hb=>?_) <;> (try simp -dsimp -implicitDefEqProofs [*] at hb)
  | (simp -dsimp -implicitDefEqProofs [*]))
 refine q5h (hf _) ?_
 rintro e s ⟨d,hd,rfl,rfl⟩
 rw [q5v]
 clear hf
 have h16:¬ (16:Int)<d:=by omega
 repeat' (simp -dsimp -implicitDefEqProofs [*])
theorem Frozen.mono {I I':Imm}{b:Nat}{o:PObj}(h:Frozen I b o)(hle:I.le I'):Frozen I' b o:=by
 obtain⟨r,h1,h2⟩:=h
 exact⟨r,hle _ _ h1,k0z hle h2⟩
theorem Sees.freeze2 {b c:Nat}{o x:PObj}{p q:PV}{st:q5c}(hn:q50 ((c,x)::st) b)(hm:q50 st c)(hf:∀ I,Frozen I b o->Frozen I c x->∀ v,vrep I p v->vrep I q v):Sees p ((b,o)::(c,x)::st) q st:=⟨fun I w v h1 h2=>by
 obtain⟨I1,h3,h4,h5⟩:=h1.freeze hn
 obtain⟨I2,h6,h7,h8⟩:=h4.freeze hm
 exact⟨I2,Imm.le_trans h3 h6,h7,hf I2 (Frozen.mono h5 h6) h8 v (q64 h6 _ _ (q64 h3 _ _ h2))⟩⟩
theorem Frz.wtab {b:Nat}{o:PObj}{c d:PV}(h:Frz b o c d):Frzs b o (wtab c) (wtab d):=
 .cons (.refl _) (.cons (.refl _) (.cons (.refl _) (.cons (.func _ .nil (.cons h .nil)) .nil)))
theorem z0s (st:q5c):PCalls P F.q38 [] st (fun e s=>∃ c,e=.ret (.iptr (wtab (j1h (wtab (j1h (wtab c))))) 0)/\s=st):=by
 refine H.q38.view q5l rfl rfl ?_
 repeat' (first 
  | (with_reducible refine Fresh.intro fun b hb=>?_) <;> (try simp -dsimp -implicitDefEqProofs [*] at hb)
  | (simp -dsimp -implicitDefEqProofs [*]))
 revert b
 intro w hw
 revert b
 intro p hp hw
 have e1:Frz p (.arr T.q5b (wtab (.ptr w 0))) (.ptr p 0) (.iptr (wtab (.ptr w 0)) 0):=.ptr _ _ 0 rfl
 have e2:Frz w (.arr T.codecwriter [.ptr p 0]) (.ptr w 0) (.iptr [.ptr p 0] 0):=.ptr _ _ 0 rfl
 refine .sees (Sees.freeze2 (q:=.iptr (wtab (j1h (wtab (j1h (wtab (.ptr w 0)))))) 0) hw hp fun I fw fp v h0=>?_) (.same ⟨⟨_,rfl⟩,rfl⟩)
 have h1:=Frz.vrep fp e1 h0
 have h2:=Frz.vrep fw (.iptr 0 (Frz.wtab e2)) h1
 have h3:=Frz.vrep fp (.iptr 0 (Frz.wtab (.iptr 0 (.cons e1 .nil)))) h2
 have h4:=Frz.vrep fw (.iptr 0 (Frz.wtab (.iptr 0 (.cons (.iptr 0 (Frz.wtab e2)) .nil)))) h3
 exact Frz.vrep fp (.iptr 0 (Frz.wtab (.iptr 0 (.cons (.iptr 0 (Frz.wtab (.iptr 0 (.cons e1 .nil)))) .nil)))) h4
theorem z9e (l:List Wv)(hl0:0<l.length)(hl:l.length<=100)(D:Nat)(hD:D<=10)(hok:∀ c,∀ v ∈ l,v.Ok 210000 (wtab (j1h (wtab c))))(hf:∀ v ∈ l,∀ st,PCalls P F.q2j [.agg v.row] st (k9p D st))(st:q5c) :
  Rets P F.q33 [.agg (q9o (l.flatMap Wv.row) l.length)] st (.tuple [q54 false (3#8::(k0v l.length++l.flatMap Wv.B)),.int 0]):=by
 refine H.q33.view q5l rfl rfl ?_
 have hc:=fun st=>k9q (.int 3) (.int 0) q6y (.list false (l.flatMap Wv.row) l.length) (D+1) (by omega) st (fun st=>j2z D l hl0 hl hD st hf)
 repeat' (first 
  | (with_reducible refine Fresh.intro fun b hb=>?_) <;> (try simp -dsimp -implicitDefEqProofs [*] at hb)
  | (with_reducible refine Rets.xcall (hc _) ?_)
  | (simp -dsimp -implicitDefEqProofs [-q5d, *]))
 clear hc
 refine DrawLate.by (Cls ((b,.arr T.apiValue (q9o (l.flatMap Wv.row) l.length))::st) []) (Cls.self _ _) ?_
 repeat' (simp -dsimp -implicitDefEqProofs [-q5d, *])
 refine q5h (z0s _) ?_
 rintro e s2 ⟨c,rfl,rfl⟩
 rw [q5v]
 refine⟨Cls.self _ _, ?_⟩
 have hok':=hok c
 clear hok
 have htab:(wtab (j1h (wtab (j1h (wtab c)))))[3]?=some (.func (.func F.q2m) [] [j1h (wtab (j1h (wtab c)))]):=rfl
 have kok:Hid (∀ v ∈ l,v.Ok 210000 (wtab (j1h (wtab c)))):=⟨hok'⟩
 clear hok'
 generalize wtab (j1h (wtab c))=tab at *
 generalize wtab (j1h tab)=tab3 at *
 repeat' (simp -dsimp -implicitDefEqProofs [-q5d, *])
 have hB:=k5u l fun v hv=>(kok.out v hv).B
 have hn:=q63 (n:=l.length) (by omega)
 refine q5h (z0r 0 (by omega) tab l hl (fun v hv=>by simpa using kok.out v hv) none ((b,.arr T.apiValue (q9o (l.flatMap Wv.row) l.length))::st) trivial (by simp)) ?_
 rintro e s2 ⟨o,ho,hol,rfl,rfl⟩
 rw [q5v]
 simp only [q78,List.nil_append] at hol
 refine⟨q6h ho (Cls.self _ _), ?_⟩
 have kl:Hid (q5u o=3#8::(k0v l.length++l.flatMap Wv.B)):=⟨hol⟩
 clear hol kok htab hf
 repeat' (simp -dsimp -implicitDefEqProofs [-q5d, *])
 exact RetView.accP2 (row:=q5k) rfl ho (.drop q5m ⟨by rw [kl.out],rfl⟩)
open Go.Pv Go.Pv.Cd
set_option maxRecDepth 100000
set_option maxHeartbeats 8000000
theorem q9l (n:Nat):k0v n=j03 n:=by
 induction n using Nat.strongRecOn with
 | _ n ih=>
  by_cases h:n<128
  ·rw [k6s h,z8x h]
  ·rw [k9o h,z8y h,ih (n / 128) (by omega)]
def iv (x:Int):Wv:=⟨1,.int x,q6y,.nil,1#8::k0v (2*x.toNat)⟩
def rI (l:List Int):List PV:=l.flatMap fun x=>[.int 1,.int x,q6y,.nil]
theorem j1m:∀ l:List Int,(rI l).length=l.length*4
 | []=>rfl
 | x::l=>by
  have:=j1m l
  simp only [rI,List.flatMap_cons,List.length_append,List.length_cons,List.length_nil] at this ⊢
  omega
theorem z6o (l m:List Int):rI (l++m)=rI l++rI m:=by simp [rI]
theorem j50 (l:List Int):(l.map iv).flatMap Wv.row=rI l:=by
 rw [List.flatMap_map]
 rfl
theorem z33:∀ (l:List Int),(∀ x ∈ l,0<=x)->(l.map iv).flatMap Wv.B=Vl.encs (l.map .int)
 | [],_=>rfl
 | x::l,h=>by
  have h0:=h x (List.mem_cons_self ..)
  have ih:=z33 l fun y hy=>h y (List.mem_cons_of_mem _ hy)
  rw [List.map_cons,List.flatMap_cons,ih,List.map_cons,Vl.encs,Vl.enc]
  congr 1
  show 1#8::k0v (2*x.toNat)=1#8::j03 (zig x)
  rw [q9l]
  unfold zig
  rw [if_pos h0]
theorem z9f (l:List Int)(hl0:0<l.length)(hl:l.length<=100)(h:∀ x ∈ l,0<=x/\x<=2097152)(st:q5c) :
  Rets P F.q33 [.agg (q9o (rI l) l.length)] st (.tuple [q54 false (Vl.list (l.map .int)).enc,.int 0]):=by
 have:=z9e (l.map iv) (by simpa using hl0) (by simpa using hl) 0 (by omega) (fun c v hv=>by
  obtain⟨x,hx,rfl⟩:=List.mem_map.1 hv
  have hx:=h x hx
  refine⟨show 1<4 by decide, ?_, ?_⟩
  ·show (1#8::k0v (2*x.toNat)).length<=2000
   have:=q63 (n:=2*x.toNat) (by omega)
   simp only [List.length_cons]
   omega
  ·refine⟨F.q2l,[],rfl,fun o st ho hol=>?_⟩
   have:=z31 x.toNat (by omega) o st ho (by omega)
   have e:((x.toNat:Nat):Int)=x:=by omega
   unfold j3t at this
   rw [e] at this
   exact this) (fun v hv st=>by
  obtain⟨x,hx,rfl⟩:=List.mem_map.1 hv
  have hx:=h x hx
  have:=j5z x.toNat st
  have e:((x.toNat:Nat):Int)=x:=by omega
  unfold j3t at this
  rw [e] at this
  exact this) st
 rw [j50,z33 l fun x hx=>(h x hx).1,q9l,List.length_map] at this
 rw [Vl.enc,List.length_map]
 exact this
theorem z34 (f:Nat->PV):∀ (n k i:Nat),i<n->(j1c f k n)[i]?=some (f (k+i))
 | 0,_,_,h=>absurd h (Nat.not_lt_zero _)
 | n+1,k,0,_=>rfl
 | n+1,k,i+1,h=>by
  rw [j1c,List.getElem?_cons_succ,z34 f n (k+1) i (by omega)]
  congr 2
  omega
theorem z35 (f:Nat->PV):∀ (n k:Nat),(j1c f k n).length=n
 | 0,_=>rfl
 | n+1,k=>by rw [j1c,List.length_cons,z35 f n (k+1)]
theorem q9m (n:Note)(hn:q5s n=true)(st:q5c):Rets P F.q18 [n.pv] st (.str (k6b (msg n))):=by
 have hs:=k0m hn
 have he:=fun st=>z9f n.ints (by simp) (by simp) hs st
 refine H.q18.view q5l rfl rfl ?_
 repeat' (first 
  | (with_reducible refine Fresh.intro fun b hb=>?_) <;> (try simp -dsimp -implicitDefEqProofs [*] at hb)
  | (with_reducible refine Rets.xcall (q90 _ _) ?_)
  | (simp -dsimp -implicitDefEqProofs [*]))
 refine q5e (fun y:Nat × Option (Acc Int)=>[(8,.list false (j1c (.ptr b) 0 24) 24),(9,.int 24),(10,.int y.1),(3,q7n y.2)]) (fun y=>q6c T.apiValue ((b,.arr T.apiNote n.enc)::st) y.2) (fun y=>y.1<=24/\accOk rI 4 ((b,.arr T.apiNote n.enc)::st) y.2/\Hid (q5u y.2=n.ints.take y.1)) (fun y=>24-y.1) (0,none) ⟨Nat.zero_le _,trivial,⟨rfl⟩⟩ (by simp) (.refl _) ?_
 rintro⟨i,o⟩ ⟨hi,ho,hol⟩
 replace hi:i<=24:=hi
 replace ho:accOk rI 4 ((b,.arr T.apiNote n.enc)::st) o:=ho
 replace hol:Hid (q5u o=n.ints.take i):=hol
 simp only
 by_cases hil:i<24
 case neg=>
  obtain rfl:i=24:=by omega
  have hL:q5u o=n.ints:=hol.out
  clear hol hs
  have hbs:=q89 (msg n)
  cases o with
  | none=>exact absurd (congrArg List.length hL) (by simp)
  | some a=>
   have hfr:=Frz.acc (T:=T.apiValue) ho.1
   obtain⟨A,ab,cap,C⟩:=a
   simp only [q65,q5y,q9x,q7e] at ho hfr hL ⊢
   subst hL
   obtain⟨ha,hnb⟩:=ho
   replace ha:=Hid.mk ha
   replace hnb:=Hid.mk hnb
   replace hfr:=Hid.mk hfr
   have hl24:n.ints.length=24:=rfl
   have he2:∀ st,Rets P F.q33 [.agg [.int 3,.int 0,q6y,.list false (rI n.ints) 24]] st (.tuple [q54 false (msg n),.int 0]):=he
   clear he
   repeat' (simp -dsimp -implicitDefEqProofs [*])
   refine k88 (b:=ab) (o:=.arr T.apiValue C) hnb.out (.refl _) (.cons (.agg (.cons (.refl _) (.cons (.refl _) (.cons (.refl _) (.cons hfr.out .nil))))) .nil) (he2 _) ?_
   clear hfr he2 ha hnb
   repeat' (simp -dsimp -implicitDefEqProofs [*])
   exact RetView.drop (st':=st) q5m ⟨rfl,rfl⟩
 have hwi:=q5f (n:=i) (by omega)
 have hg:=k1v (T:=T.apiValue) ho (b:=b) (x:=.arr T.apiNote n.enc) (by simp)
 have p1:=z34 (.ptr b) 24 0 i hil
 rw [Nat.zero_add] at p1
 have P1:=q6b p1
 have q1:n.enc[i]?=some (.int n.ints[i]):=by
  rw [Note.enc_ints,List.getElem?_map,List.getElem?_eq_getElem (by simpa using hil)]
  rfl
 have hpl:=z35 (.ptr b) 24 0
 have hx:Hid (n.ints.take (i+1)=n.ints.take i++[n.ints[i]]):=⟨List.take_succ_eq_append_getElem (by simpa using hil)⟩
 have hol2:Hid ((q5u o).length=i):=⟨by rw [hol.out,List.length_take,Note.ints_len]; omega⟩
 obtain⟨x,hxd⟩:∃ x,x=n.ints[i]:=⟨_,rfl⟩
 rw [<-hxd] at q1 hx
 have Q1:=q6b q1
 clear hs he hxd
 repeat' (first 
  | (with_reducible refine Lit.imm ?_)
  | (with_reducible refine And.intro (fun h=>?_) (fun h=>?_)) <;> (try (exfalso; omega))
  | ((with_reducible refine q5r ?_ fun hk=>?_); omega)
  | (simp -dsimp -implicitDefEqProofs [-q5d, *]))
 refine q9k j1m z6o o ho [x] rfl rfl (by omega) (by rw [hol2.out]; omega) fun o' ho' hl'=>?_
 have kl:Hid (q5u o'=n.ints.take (i+1)):=⟨by rw [hl',hol.out,hx.out]⟩
 clear hl'
 repeat' (simp -dsimp -implicitDefEqProofs [-q5d, *])
 exact Next.intro (i+1,o') ⟨by simp only; omega,ho',kl⟩ (by simp only; omega) (by simp) q5m
open Go.Pv Go.Pv.Cd
set_option maxRecDepth 100000
set_option maxHeartbeats 8000000
theorem z9g (a b:ByteArray)(st:q5c):Rets P F.q4m [.str a,.str b] st (.int (Lib.compareBytes a.data.toList b.data.toList)):=
 .inr ⟨fun I w vs hS hv=>by
  obtain⟨v1,v2,rfl,e1,e2⟩:∃ v1 v2,vs=[v1,v2]/\vrep I (.str a) v1/\vrep I (.str b) v2:=by
   match vs,hv with
   | [v1,v2],hv=>simp only [vreps] at hv; exact⟨v1,v2,rfl,hv.1,hv.2.1⟩
  simp only [vrep] at e1 e2
  subst e1 e2
  refine⟨_,w,by rw [run_callFunc_extern Tryz.func210 (by kernel_rfl) (by kernel_rfl) (by kernel_rfl) (e:=Extern.BytealgCompare.compare) (by kernel_rfl),Lib.run_compareString]; rfl,I,st,I.le_refl,Calm.refl w,hS,_,by simp only [vrep],rfl,rfl⟩⟩
theorem j51 (a b:ByteArray)(st:q5c):Rets P F.q1n [.str a,.str b] st (.int (Lib.compareBytes a.data.toList b.data.toList)):=by
 refine H.q1n.pure q5l rfl rfl ?_
 repeat' (first 
  | (with_reducible refine Rets.xcall (z9g _ _ _) ?_)
  | (simp -dsimp -implicitDefEqProofs [*]))
theorem z9h (a b:ByteArray)(st:q5c):Rets P F.q37 [.str a,.str b] st (.int (Lib.compareBytes a.data.toList b.data.toList)):=by
 refine H.q37.pure q5l rfl rfl ?_
 repeat' (first 
  | (with_reducible refine Rets.xcall (j51 _ _ _) ?_)
  | (simp -dsimp -implicitDefEqProofs [*]))
theorem k26 (a b:Note)(ha:q5s a=true)(hb:q5s b=true)(st:q5c):Rets P F.q09 [a.pv,b.pv] st (.int (q6v a b)):=by
 have ma:=fun st=>q9m a ha st
 have mb:=fun st=>q9m b hb st
 refine H.q09.pure q5l rfl rfl ?_
 repeat' (first 
  | (with_reducible refine Fresh.intro fun b hb=>?_) <;> (try simp -dsimp -implicitDefEqProofs [*] at hb)
  | (with_reducible refine Rets.xcall (ma _) ?_)
  | (with_reducible refine Rets.xcall (mb _) ?_)
  | (with_reducible refine Rets.xcall (z9h _ _ _) ?_)
  | (with_reducible refine DrawLate.intro [] ?_)
  | (simp -dsimp -implicitDefEqProofs [*]))
 rfl
theorem q9v (e:Int)(st:q5c):Rets P F.q1r [.bool true,.int e] st (.tuple []):=by
 refine H.q1r.pure q5l rfl rfl ?_
 repeat' (simp -dsimp -implicitDefEqProofs [*])
theorem k0n (e:Int)(st:q5c):Panics P F.q1r [.bool false,.int e] st (.iface T.apiErrno (.int e)):=by
 refine H.q1r.panics q5l rfl rfl ?_
 repeat' (simp -dsimp -implicitDefEqProofs [*])
theorem k5w:[PV.int 0,.int 0,.int 0,.int 0,.int 0,.int 0,.int 0,.int 0,.int 0,.int 0,.int 0,.int 0,.int 0,.int 0]=zeroD.enc:=rfl
theorem y2l (d:Decision):okD [d] ↔ q7l d=true:=by
 have:=j1b (x:=d) z86
 simp only [List.nil_append,j5p] at this
 rw [this]
 constructor
 ·exact fun h=>h.1
 ·intro h
  have:=k5q h
  exact⟨h,by omega⟩
theorem z18 (d:Decision):q8y [d]=0 ↔ q7l d=true:=by
 rw [k4o,y2l]
 simp
theorem z9i (e:Event)(st:q5c):Rets P F.q31 [.list true e.enc 1] st (.int (q8q [e])):=by
 rw [z84]
 exact z16 true [e] st
theorem z9j (d:Decision)(st:q5c):Rets P F.q4a [.list true d.enc 1] st (.int (q8y [d])):=by
 have:=z88 true [d] st
 have e:Decision.lst true [d]=.list true d.enc 1:=by simp [Decision.lst]
 rwa [e] at this
theorem k1w (n:Note)(st:q5c):Rets P F.q1w [n.pv] st (.bool (q5s n)):=by
 have k1:=k6r n.ev
 have k2:=z18 n.dec
 have c1:=fun st=>z9i n.ev st
 have c2:=fun st=>z9j n.dec st
 generalize q8q [n.ev]=E1 at *
 generalize q8y [n.dec]=E2 at *
 by_cases h1:n.kind=1
 ·have ef:q5s n=(q79 n.ev && decide (n.dec=zeroD)):=by unfold q5s; rw [if_pos h1]
  rw [ef]
  clear ef k2 c2
  by_cases hz:n.dec=zeroD
  ·have e:(q79 n.ev && decide (n.dec=zeroD))=decide (E1=0):=by
    rw [decide_eq_true hz,Bool.and_true,Bool.eq_iff_iff,decide_eq_true_eq]
    exact k1.symm
   rw [e]
   clear e k1
   have hs:=n.subDec
   rw [hz] at hs
   refine H.q1w.pure q5l rfl rfl ?_
   repeat' (first 
    | (with_reducible refine Fresh.intro fun b hb=>?_) <;> (try simp -dsimp -implicitDefEqProofs [*] at hb)
    | (with_reducible refine Rets.xcall (c1 _) ?_)
    | (with_reducible refine Lit.imm ?_)
    | (simp -dsimp -implicitDefEqProofs [k5w, *]))
  ·rw [decide_eq_false hz,Bool.and_false]
   clear k1 c1
   refine H.q1w.pure q5l rfl rfl ?_
   repeat' (first 
    | (with_reducible refine Fresh.intro fun b hb=>?_) <;> (try simp -dsimp -implicitDefEqProofs [*] at hb)
    | (simp -dsimp -implicitDefEqProofs [k5w, *]))
 by_cases h2:n.kind=2
 ·have ef:q5s n=(q7l n.dec && decide (n.ev=zeroE)):=by unfold q5s; rw [if_neg h1,decide_eq_true h2,Bool.true_and]
  rw [ef]
  clear ef k1 c1
  by_cases hz:n.ev=zeroE
  ·have e:(q7l n.dec && decide (n.ev=zeroE))=decide (E2=0):=by
    rw [decide_eq_true hz,Bool.and_true,Bool.eq_iff_iff,decide_eq_true_eq]
    exact k2.symm
   rw [e]
   clear e k2
   have hs:=n.subEv
   rw [hz] at hs
   refine H.q1w.pure q5l rfl rfl ?_
   repeat' (first 
    | (with_reducible refine Fresh.intro fun b hb=>?_) <;> (try simp -dsimp -implicitDefEqProofs [*] at hb)
    | (with_reducible refine Rets.xcall (c2 _) ?_)
    | (with_reducible refine Lit.imm ?_)
    | (simp -dsimp -implicitDefEqProofs [q71, *]))
  ·rw [decide_eq_false hz,Bool.and_false]
   clear k2 c2
   refine H.q1w.pure q5l rfl rfl ?_
   repeat' (first 
    | (with_reducible refine Fresh.intro fun b hb=>?_) <;> (try simp -dsimp -implicitDefEqProofs [*] at hb)
    | (simp -dsimp -implicitDefEqProofs [q71, *]))
 ·have ef:q5s n=false:=by unfold q5s; rw [if_neg h1,decide_eq_false h2]; rfl
  rw [ef]
  clear ef k1 k2 c1 c2
  refine H.q1w.pure q5l rfl rfl ?_
  repeat' (first 
   | (with_reducible refine Fresh.intro fun b hb=>?_) <;> (try simp -dsimp -implicitDefEqProofs [*] at hb)
   | (simp -dsimp -implicitDefEqProofs [*]))
end Go.Proofs.YtmlmoaimjifpgaaGreat
