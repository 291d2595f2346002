/- Rooms that are valid, as rooms of notes; what New, Check and Do give in the program and in the reference. -/
import Derived.Test.YtmlmoaimjifpgaaGreatB58K
import Derived.Test.YtmlmoaimjifpgaaGreatB58J
import Derived.Test.YtmlmoaimjifpgaaGreatP58C
import Derived.Test.YtmlmoaimjifpgaaGreatG58W
import Derived.Test.YtmlmoaimjifpgaaGreatLRd
import Derived.Test.YtmlmoaimjifpgaaGreatA58B
namespace Go.Proofs.YtmlmoaimjifpgaaGreat
open Go.Pv Go.Pv.Cd
set_option maxRecDepth 100000
set_option maxHeartbeats 4000000
def pkN (p:Pk):Nat × Nat × Note:=(p.fr.toNat,p.to.toNat,(q8f p.d).getD ⟨0,zeroE,zeroD⟩)
theorem y8e {n:Nat}{p:Pk}(h:z9k n p)(hb:pkB p=true):q6d (pkN p)=p/\(pkN p).1<n/\(pkN p).2.1<n/\(pkN p).1 ≠ (pkN p).2.1/\q5q (pkN p).2.2=true:=by
 obtain⟨⟨x,hx⟩,h1,h2⟩:=h
 obtain⟨hf,hm⟩:=k8c hx
 obtain⟨a,b,d⟩:=p
 simp only at hx h1 h2 hm
 unfold pkB k33 at hb
 simp only [Bool.and_eq_true,decide_eq_true_eq] at hb
 obtain⟨⟨⟨h3,h4⟩, -⟩, -⟩:=hb
 have e:pkN ⟨a,b,d⟩=(a.toNat,b.toNat,x):=by
  unfold pkN
  simp only [hx,Option.getD_some]
 rw [e]
 refine⟨?_,by show a.toNat<n; omega,by show b.toNat<n; omega,by show a.toNat ≠ b.toNat; omega,hf⟩
 unfold q6d
 simp only [<-hm]
 rw [show ((a.toNat:Nat):Int)=a by omega,show ((b.toNat:Nat):Int)=b by omega]
theorem k93 {α:Type}{k:Nat}:∀ {l:List (List α)},(∀ x ∈ l,x.length<=k)->l.flatten.length<=l.length*k
 | [],_=>Nat.zero_le _
 | x::l,h=>by
  have h1:=h x (List.mem_cons_self ..)
  have ih:=k93 (k:=k) fun y hy=>h y (List.mem_cons_of_mem _ hy)
  rw [List.flatten_cons,List.length_append,List.length_cons,Nat.succ_mul]
  omega
theorem y3f {peers:List (List Note)}{Q:List Pk}{ap:List Lk}(h:k6d peers Q ap)(hf:k67 peers Q ap):∃ (r:PR Note) (U:List Note),q59 ap r=q6j peers Q ap/\InR r peers.length U/\U.length<=190/\LksOK ap/\r.q.length<=40:=by
 obtain⟨h1,⟨hn1,hn2,hn3⟩,h3,h4⟩:=h
 obtain⟨f1,⟨f2,f2'⟩,f3,f4⟩:=hf
 have hp5:peers.length<=5:=by omega
 rw [List.take_of_length_le (by omega)] at f3
 have hk:∀ p ∈ Q,q6d (pkN p)=p/\(pkN p).1<peers.length/\(pkN p).2.1<peers.length/\(pkN p).1 ≠ (pkN p).2.1/\q5q (pkN p).2.2=true:=fun p hp=>y8e (h4 p hp) (hn2 p hp)
 have hmap:(Q.map pkN).map q6d=Q:=by
  rw [List.map_map]
  conv=>rhs; rw [<-List.map_id Q]
  exact List.map_congr_left fun p hp=>(hk p hp).1
 refine⟨⟨peers,Q.map pkN,[]⟩,peers.flatten++Q.map fun p=>(pkN p).2.2, ?_,⟨rfl,fun l hl=>(h3 l hl).1,fun l hl y hy=>List.mem_append_left _ (List.mem_flatten.2 ⟨l,hl,hy⟩),fun p hp=>?_,rfl⟩, ?_,⟨by omega,hn3⟩, ?_⟩
 ·unfold q59
  simp only [hmap]
 ·obtain⟨x,hx,rfl⟩:=List.mem_map.1 hp
  have:=hk x hx
  exact⟨this.2.1,this.2.2.1,this.2.2.2.1,this.2.2.2.2,List.mem_append_right _ (List.mem_map.2 ⟨x,hx,rfl⟩)⟩
 ·have:=k93 f3
  have h5:peers.length*30<=5*30:=Nat.mul_le_mul_right 30 hp5
  rw [List.length_append,List.length_map]
  omega
 ·show (Q.map pkN).length<=40
  rw [List.length_map]
  exact f2
theorem y3g (peers:List (List Note))(Q:List Pk)(ap:List Lk)(m:Mv Note)(hc:∀ st,Rets P F.q1i [.agg (q6j peers Q ap)] st (.int 580))(st:q5f):Rets P F.q0h [.agg (q6j peers Q ap),.agg (mvE m)] st (.tuple [.agg q7l,.int 580]):=by
 unfold q6j at *
 refine H.q0h.view q5n rfl rfl ?_
 repeat' (first 
  | (with_reducible refine Fresh.intro fun b hb=>?_) <;> (try simp -dsimp -implicitDefEqProofs [*] at hb)
  | (with_reducible refine Rets.xcall (hc _) ?_)
  | (simp -dsimp -implicitDefEqProofs [*]))
 exact RetView.sees (SeesV.le (q:=.tuple [.agg q7l,.int 580]) (PLeV.tuple2 q6q (.refl _))) (RetView.drop (st':=st) q5o ⟨rfl,rfl⟩)
theorem y3h {ap:List Lk}{r x:PR Note}{n:Nat}{U:List Note}(h:InR r n U)(hn:n<=24)(hU:U.length<=500)(hq:r.q.length<=100){m:Mv Note}(e:j86 ap r m=.inl x):∃ V:List Note,InR x n V/\V.length<=501/\x.q.length<=100000:=by
 unfold j86 at e
 split at e
 ·split at e
  ·simp only [Sum.inl.injEq] at e
   subst e
   have hd:InR (r.drop m.at'.toNat) n U:=h.drop _
   have hl:InR (r.deliver q6p m.at'.toNat) n U:=h.deliver cmpN_ord _
   have l1:(r.drop m.at'.toNat).q.length<=100:=by
    show (r.q.eraseIdx _).length<=_
    exact Nat.le_trans (List.length_eraseIdx_le ..) hq
   have l2:(r.deliver q6p m.at'.toNat).q.length<=100:=by
    unfold PR.deliver
    split
    ·exact hq
    ·split
     ·exact l1
     ·exact l1
   unfold j1e
   split
   ·exact⟨U,h,by omega,by omega⟩
   ·split
    ·exact⟨U,hd,by omega,by omega⟩
    ·exact⟨U,hl,by omega,by omega⟩
  ·cases e
 ·have h1:=(h.act cmpN_ord e).1
  have h2:=h.act_len cmpN_ord e (k:=600) (by omega) (by omega) (by omega)
  refine⟨_,h1, ?_,by omega⟩
  split
  ·rw [List.length_cons]; omega
  ·omega
theorem acts (peers:List (List Note))(Q:List Pk)(ap:List Lk)(m:Mv Note)(hf:k67 peers Q ap):∃ (A:List (List Note)) (B:List Pk) (D:List Lk) (e c:Int),A.length<=1000/\(∀ l ∈ A,l.length<=100000)/\B.length<=100000/\D.length<=100000 ∧
  (∀ st,Rets P F.q0h [.agg (q6j peers Q ap),.agg (mvE m)] st (.tuple [.agg (q6j A B D),.int e])) ∧
  (∀ st,Rets P F.q0o [.agg (q6j peers Q ap),.agg (mvE m)] st (.tuple [.agg (q6j A B D),.int e])) ∧
  (∀ st,Rets P F.q1i [.agg (q6j peers Q ap)] st (.int c)) ∧
  (∀ st,Rets P F.q1w [.agg (q6j peers Q ap)] st (.int c)):=by
 have hp:peers.length<=24->∀ l ∈ peers,l.length<=100000:=fun h l hl=>by
  have h5:peers.length<=5:=by have:=hf.1; omega
  have:=hf.2.2.1
  rw [List.take_of_length_le (by omega)] at this
  have:=this l hl
  omega
 have hQ:=hf.2.1.1
 have ha:=hf.2.1.2
 have hd:=hf.2.2.2
 by_cases ho:k6d peers Q ap
 ·obtain⟨r,U,e,hin,hU,hap,hq⟩:=y3f ho hf
  have hn:=ho.1
  have c1:=fun st=>q6z hap hin hn (by omega) (by omega) st
  have c2:=fun st=>k6h hap hin hn (by omega) (by omega) st
  have d1:=fun st=>j1f hap hin hn (by omega) (by omega) m st
  have d2:=fun st=>j3c hap hin hn (by omega) (by omega) m st
  rw [e] at c1 c2 d1 d2
  unfold j20 j21 at d1 d2
  cases hz:j86 ap r m with
  | inl x=>
   rw [hz] at d1 d2
   obtain⟨V,hV,hVl,hxq⟩:=y3h hin hn.2 (by omega:U.length<=500) (by omega) hz
   refine⟨x.peers,x.q.map q6d,ap,0,0, ?_,fun l hl=>?_, ?_,by omega,d1,d2,c1,c2⟩
   ·have:=hV.len; omega
   ·have:=(hV.peer hl).2; omega
   ·rw [List.length_map]; omega
  | inr e=>
   rw [hz] at d1 d2
   exact⟨[],[],[],e,0,by simp,by simp,by simp,by simp,d1,d2,c1,c2⟩
 ·have c1:=fun st=>k7v peers Q ap hp (by omega) (fun p hp=>by have:=hd p hp; omega) (by omega) false ⟨(fun h=>by cases h),fun h=>absurd h ho⟩ st
  have c2:=fun st=>k3g peers Q ap hp (by omega) hd (by omega) false ⟨(fun h=>by cases h),fun h=>absurd h ho⟩ st
  rw [if_neg (by decide)] at c1 c2
  exact⟨[],[],[],580,580,by simp,by simp,by simp,by simp,y3g peers Q ap m c1,j3b peers Q ap m c2,c1,c2⟩
theorem news (n:Int):∃ (A:List (List Note)) (e:Int),A.length<=1000/\(∀ l ∈ A,l.length<=100000) ∧
  (∀ st,Rets P F.q2k [.int n] st (.tuple [.agg (q6j A [] []),.int e])) ∧
  (∀ st,Rets P F.q2r [.int n] st (.tuple [.agg (q6j A [] []),.int e])):=by
 by_cases h:1<=n/\n<=24
 ·have e:((n.toNat:Nat):Int)=n:=by omega
  have n1:=y08 n.toNat (by omega)
  have n2:=j6r n.toNat (by omega)
  rw [e] at n1 n2
  refine⟨List.replicate n.toNat [],0,by rw [List.length_replicate]; omega,fun l hl=>by rw [(List.mem_replicate.1 hl).2]; simp,n1,n2⟩
 ·exact⟨[],1,by simp,by simp,y07 n h,j6q n h⟩
set_option maxRecDepth 100000
set_option maxHeartbeats 4000000
open Go.ChangeShapes Go.WideShapes Go.ChangeAt Go.RowKit Go.Pv
section
variable {H:Type} {enc:TypeId × Value->H} {W:World} {base:Nat} {spare:Nat->Bool} {held:Bool}
theorem y3i:Opens enc Tryz.prog W base spare held [] 169 2 (fun x:Lk=>x.enc) (fun _=>True):=
 ⟨by kernel_rfl,fun {fuel cs y} h=>by
  obtain⟨xs,m,rfl,rfl,hcl,hxl,hx⟩:=DataW.trod_array Tryz.underlying169 h
  have hc2:cs.length=2:=hcl
  match cs,hc2 with
  | [c0,c1],_=>
   have hc:Tryz.prog.cellsOf 3=1:=by kernel_rfl
   rw [hc] at hx
   have h0:=hx 0 (by decide)
   have h1:=hx 1 (by decide)
   rw [List.getElem?_eq_getElem (by omega)] at h0 h1
   obtain⟨a,ha, -, -⟩:=DataW.trod_int Tryz.underlying3 h0
   obtain⟨b,hb, -, -⟩:=DataW.trod_int Tryz.underlying3 h1
   have ha2:c0=.int .i64 a:=by simpa using ha
   have hb2:c1=.int .i64 b:=by simpa using hb
   subst ha2 hb2
   exact⟨⟨a,b⟩,trivial,by simp [Lk.enc,vcells,vrep,Value.oneCell'],rfl⟩⟩
theorem j9n:Opens enc Tryz.prog W base spare held [] 24 1 (fun l:List Lk=>[Lk.lst false l]) (fun _=>True):=
 (Opens.slice OffE.nil Tryz.underlying24 (by kernel_rfl) (by decide) y3i).conv id (fun _=>rfl) (fun _ _=>trivial)
theorem j6s:Opens enc Tryz.prog W base spare held [] 98 3 (fun x:Pk=>x.enc) (fun _=>True):=
 (Opens.struct Tryz.underlying98 (by kernel_rfl) (.cons rfl (Opens.i64 Tryz.underlying3 (by kernel_rfl)) (.cons rfl (Opens.i64 Tryz.underlying3 (by kernel_rfl)) (.cons rfl j9h .nil)))).conv (fun x=>⟨x.1,x.2.1,x.2.2.1⟩) (fun _=>rfl) (fun _ _=>trivial)
theorem j3d:Opens enc Tryz.prog W base spare held [] 23 1 (fun l:List Pk=>[Pk.lst false l]) (fun _=>True):=
 (Opens.slice OffE.nil Tryz.underlying23 (by kernel_rfl) (by decide) j6s).conv id (fun _=>rfl) (fun _ _=>trivial)
theorem y8f:Opens enc Tryz.prog W base spare held [] 26 2 (fun x:List Pk × List Lk=>[Pk.lst false x.1,Lk.lst false x.2]) (fun _=>True):=
 (Opens.struct Tryz.underlying26 (by kernel_rfl) (.cons rfl j3d (.cons rfl j9n .nil))).conv (fun x=>⟨x.1,x.2.1⟩) (fun _=>rfl) (fun _ _=>trivial)
theorem j9o:Opens enc Tryz.prog W base spare held [] 22 1 (fun l:List (List Note)=>[.list false (prR l) l.length]) (fun _=>True):=
 (Opens.slice OffE.nil Tryz.underlying22 (by kernel_rfl) (by decide) y3d).conv id (fun l=>by rw [z4c]; rfl) (fun _ _=>trivial)
theorem y3j:Opens enc Tryz.prog W base spare held [] 28 3 (fun x:List (List Note) × List Pk × List Lk=>q6j x.1 x.2.1 x.2.2) (fun _=>True):=
 (Opens.struct Tryz.underlying28 (by kernel_rfl) (.cons rfl j9o (.cons rfl y8f .nil))).conv (fun x=>⟨x.1,x.2.1.1,x.2.1.2⟩) (fun _=>rfl) (fun _ _=>trivial)
end
open Go.Pv Go.Pv.Cd
set_option maxRecDepth 100000
set_option maxHeartbeats 8000000
theorem j9p (n:Int)(peers:List (List Note))(Q:List Pk)(ap:List Lk)(m:Mv Note):Rets P F.q2b [.int n,.agg (q6j peers Q ap),.agg (mvE m)] [] (.bool true):=by
 have fw:=fun st=>z68 peers Q ap st
 have ac:=Hid.mk fun h=>acts peers Q ap m h
 have nw:=news n
 have sm:=Hid.mk fun A B D h1 h2 h3 h4 st=>z0s A B D h3 h4 h1 h2 st
 generalize k67 peers Q ap=FW at *
 unfold q6j at *
 obtain⟨N,ne,k1,k2,w1,w2⟩:=nw
 have s2:=fun st=>sm.out N [] [] k1 k2 (Nat.zero_le _) (Nat.zero_le _) st
 clear k1 k2
 refine H.q2b.view q5n rfl rfl ?_
 repeat' (first 
  | (with_reducible refine Fresh.intro fun b hb=>?_) <;> (try simp -dsimp -implicitDefEqProofs [*] at hb)
  | (with_reducible refine Rets.xcall (j6l _) ?_)
  | (simp -dsimp -implicitDefEqProofs [*]))
 refine q5k (fw _) ?_
 clear fw
 rintro e s ⟨r,rfl,rfl,hr⟩
 rw [q5x]
 cases r with
 | false=>
  clear ac hr sm s2 w1 w2
  repeat' (simp -dsimp -implicitDefEqProofs [*])
  exact .drop (st':=[]) (fun _ _ h=>by cases h) ⟨rfl,rfl⟩
 | true=>
 have H0:=ac.out (hr rfl)
 obtain⟨A,B,D,e,c,k1,k2,k3,k4,d1,d2,c1,c2⟩:=H0
 have s1:=fun st=>sm.out A B D k1 k2 k3 k4 st
 clear sm ac hr k1 k2 k3 k4
 repeat' (first 
  | (with_reducible refine Fresh.intro fun b hb=>?_) <;> (try simp -dsimp -implicitDefEqProofs [*] at hb)
  | (with_reducible refine Rets.xcall (d1 _) ?_)
  | (with_reducible refine Rets.xcall (d2 _) ?_)
  | (with_reducible refine Rets.xcall (w1 _) ?_)
  | (with_reducible refine Rets.xcall (w2 _) ?_)
  | (with_reducible refine Rets.xcall (c1 _) ?_)
  | (with_reducible refine Rets.xcall (c2 _) ?_)
  | (with_reducible refine Rets.xcall (s1 _) ?_)
  | (with_reducible refine Rets.xcall (s2 _) ?_)
  | (with_reducible refine DrawLate.intro [] ?_)
  | (simp -dsimp -implicitDefEqProofs [*]))
 exact .drop (st':=[]) (fun _ _ h=>by cases h) ⟨rfl,rfl⟩
open Go.ChangeShapes Go.WideShapes Go.ChangeAt Go.RowKit Go.Pv
set_option maxRecDepth 100000 in
theorem k35 (H:Type)(enc:TypeId × Value->H)(W:World)(base:Nat)(args:Array Value)(ds gs:List (DataW H))(before:List MemPlace)
  (hval0:∀ (j:Nat) t v,Tryz.f3.params[j]?=some t->args[j]?=some v->Value.okWide Tryz.prog W .any base t v)
  (hW:DataW.Whole enc Tryz.prog Tryz.f3.params.toList Rows.partiesSpecSpec.vars false W args.toList ds gs before) :
  Calls Tryz.prog 3 args W fun e W'=>∃ v,e=.returned v/\Rows.partiesSpecSpec.post enc Tryz.prog Tryz.f3 false true false false W args v W':=by
 have hval:∀ (j:Nat) t v,Tryz.f3.params[j]?=some t->args[j]?=some v->Value.okWide Tryz.prog W .any base t v:=hval0
 have hW':=hW
 obtain⟨p,q,hA0,hV,rfl,hfz,hnd⟩:=hW
 have hA:DataW.TrodAll enc Tryz.prog W 0 (fun _=>true) true Tryz.f3.params.toList args.toList ds p:=hA0
 rw [Tryz.params3] at hA hval
 obtain⟨v0,vs0,d0,ds0,p0,q0,hargs,rfl,rfl,h0,r0⟩:=trodAll_cons hA
 obtain⟨v1,vs1,d1,ds1,p1,q1,rfl,rfl,rfl,h1,r1⟩:=trodAll_cons r0
 obtain⟨v2,vs2,d2,ds2,p2,q2,rfl,rfl,rfl,h2,r2⟩:=trodAll_cons r1
 obtain⟨rfl,rfl,rfl⟩:=trodAll_nil r2
 obtain rfl:args=#[v0,v1,v2]:=by cases args; simp_all
 obtain⟨rfl,rfl⟩:=trodVars_none hV
 obtain⟨a0,rfl,rfl,rfl,w0⟩:=open_int Tryz.underlying3 (hval 0 3 v0 rfl rfl) h0
 have k1:=h1
 have lt1:∀ x ∈ p1,x.block<W.heap.size:=by obtain⟨m,hm⟩:=k1; exact DataW.trod_lt m _ _ _ hm
 obtain⟨x1,g1,w1⟩:=Opens.argS (gl:=[]) y3j Tryz.underlying28 (hval 1 28 v1 rfl rfl) h1
 have k2:=h2
 have lt2:∀ x ∈ p2,x.block<W.heap.size:=by obtain⟨m,hm⟩:=k2; exact DataW.trod_lt m _ _ _ hm
 obtain⟨x2,g2,w2⟩:=Opens.argS (gl:=[]) y3c Tryz.underlying36 (hval 2 36 v2 rfl rfl) h2
 clear hA0 hval0
 refine ((_root_.Go.Proofs.YtmlmoaimjifpgaaGreat.H.q2b).bridgeG (gl:=[]) (j9p a0 x1.1 x1.2.1 x1.2.2 x2) (w:=W) (fun _ _ _ h=>by cases h) (vs:=[.int .i64 a0,v1,v2]) ⟨rfl,w1,w2,trivial⟩).mono fun e W' ⟨he,bel⟩=>?_
 subst he
 exact⟨_,rfl,_,_,_,[],_,[],hW',trodAll_mk1 (shut_bool Tryz.underlying4 _),(trodAll_cons_mk (shut_int Tryz.underlying3 w0) (trodAll_cons_mk (Go.RowKit.Below.trod j6m (by kernel_rfl) (of_decide_eq_true (by kernel_rfl)) k1 bel lt1) (trodAll_cons_mk (Go.RowKit.Below.trod j6m (by kernel_rfl) (of_decide_eq_true (by kernel_rfl)) k2 bel lt2) trodAll_mk0))),rfl,bel.frame _,fun h=>by cases h⟩
set_option maxRecDepth 100000 in
theorem k6k (os:Os)(started:os.Started)(H:Type)(enc:TypeId × Value->H) :
  ReturnsInHanded {} Tryz.checked os 3 .any (Rows.partiesSpecSpec.pre6 enc Tryz.prog Tryz.f3 Rows.partiesSpecRow.domain false) (Rows.partiesSpecSpec.post enc Tryz.prog Tryz.f3 false true false false):=by
 refine returnsInHanded_of_change (C:=Tryz.checked) own started (by kernel_rfl) Tryz.func3
  (ChangeSpec.witness6 (enc:=enc) (C:=Tryz.checked) false ⟨#[],#[.int .i64 0,.agg #[.slice none 0 0,.slice none 0 0,.slice none 0 0],.agg #[.int .i64 0,.int .i64 0,.int .i64 0,.int .i64 0,.int .i64 0,.int .i64 0,.int .i64 0,.int .i64 0,.int .i64 0,.int .i64 0,.int .i64 0,.int .i64 0,.int .i64 0,.int .i64 0,.int .i64 0,.int .i64 0,.int .i64 0,.int .i64 0,.int .i64 0,.int .i64 0,.int .i64 0,.int .i64 0,.int .i64 0,.int .i64 0,.int .i64 0,.int .i64 0,.int .i64 0,.int .i64 0]],[]⟩ 8 (by kernel_rfl) (by kernel_rfl) (by kernel_rfl) (by kernel_rfl)) ?_
 intro W base args ds gs before hval hW _ _
 exact k35 H enc W base args ds gs before hval hW
theorem partiesSpec_holds:Rows.PartiesSpecSaid:=
 OpenClaim.holds_of_wide 3 Tryz.f3 rfl rfl rfl rfl rfl rfl rfl ⟨rfl,rfl,rfl,rfl,rfl⟩ rfl rfl rfl rfl rfl (by kernel_rfl) Tryz.func3 (by kernel_rfl)
  (of_decide_eq_true (by kernel_rfl)) (by unfold Func.isWrapper; first | (rw [if_pos (by decide +kernel)]; kernel_rfl) | (rw [if_neg (by decide +kernel)]; exact⟨rfl,rfl⟩))
  (fun os started H enc _=>k6k os started H enc)
end Go.Proofs.YtmlmoaimjifpgaaGreat
