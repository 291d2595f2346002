/- Encodings by the program: texts and lists. -/
import Derived.Test.YtmlmoaimjifpgaaGreatD58B
namespace Go.Proofs.YtmlmoaimjifpgaaGreat
open Go.Pv Go.Pv.Sha
set_option maxRecDepth 100000
set_option maxHeartbeats 4000000
theorem k1v {α:Type}{row:List α->List PV}{k:Nat}{T:TypeId}{b:Nat}{x:PObj}{st:q5c}{o:Option (Acc α)}(h:accOk row k st o)(hg:q55 st b=some x):q55 (q6c T st o) b=some x:=by
 cases o with
 | none=>exact hg
 | some a=>
  have:=y12 h.2 hg
  simp [q6c,q55,this,hg]
def wtab (c:PV):List PV:=[.val .nilFunc,.func (.func F.q2l) [] [],.func (.func F.q4v) [] [],.func (.func F.q2m) [] [c]]
abbrev j1h (tab:List PV):PV:=.iptr [.iptr tab 0] 0
structure Wv where
 k:Nat
 c1:PV
 c2:PV
 c3:PV
 B:List (BitVec 8)
abbrev Wv.row (v:Wv):List PV:=[.int (v.k:Int),v.c1,v.c2,v.c3]
structure Wv.Ok (M:Nat)(tab:List PV)(v:Wv):Prop where
 k:v.k<4
 B:v.B.length<=2000
 run:∃ g cs,tab[v.k]?=some (.func (.func g) [] cs)/\∀ (o:Option (Acc (BitVec 8))) (st:q5c),accOk q5k 1 st o->(q5u o).length<=M ->
  PCalls P g ([q7n o,.agg v.row]++cs) (q6c T.uint8 st o) (j5v st (q5u o++v.B))
theorem k5u:∀ l:List Wv,(∀ v ∈ l,v.B.length<=2000)->(l.flatMap Wv.B).length<=l.length*2000
 | [],_=>by simp
 | v::l,h=>by
  have h1:=k5u l fun u hu=>h u (List.mem_cons_of_mem _ hu)
  have h2:=h v List.mem_cons_self
  simp only [List.flatMap_cons,List.length_append,List.length_cons]
  omega
theorem accOk.box {α:Type}{row:List α->List PV}{k:Nat}{T:TypeId}{b:Nat}{x:PObj}{st:q5c}{o:Option (Acc α)}(hb:q50 (q6c T st o) b)(h:accOk row k st o):accOk row k ((b,x)::st) o:=by
 cases o with
 | none=>trivial
 | some a=>exact⟨h.1,⟨hb.1.symm,h.2⟩⟩
theorem StLe.rebox {α:Type}{T:TypeId}{b:Nat}{x:PObj}{st:q5c}{o:Option (Acc α)}(hb:q50 (q6c T st o) b):StLe (q6c T ((b,x)::st) o) ((b,x)::q6c T st o):=by
 cases o with
 | none=>exact .refl _
 | some a=>exact .swap hb.1.1
theorem z0r (M:Nat)(hM:M<=500000)(tab:List PV)(l:List Wv)(hl:l.length<=100)(hok:∀ v ∈ l,v.Ok (M+210000) tab)(o:Option (Acc (BitVec 8)))(st:q5c)(ho:accOk q5k 1 st o)(hol:(q5u o).length<=M) :
  PCalls P F.q2m [q7n o,.agg (q9o (l.flatMap Wv.row) l.length),j1h tab] (q6c T.uint8 st o) (j5v st (q5u o++(3#8::(k0v l.length++l.flatMap Wv.B)))):=by
 refine H.q2m.view q5l rfl rfl ?_
 have hsz:IntKind.u64.wrap (l.length:Int)=(l.length:Int):=q7g (by omega) (by omega)
 repeat' (first 
  | (with_reducible refine Fresh.intro fun b hb=>?_) <;> (try simp -dsimp -implicitDefEqProofs [*] at hb)
  | (simp -dsimp -implicitDefEqProofs [-q5d, *]))
 revert b
 intro b hb
 obtain⟨hnb,hns⟩:=accB_new hb
 refine DrawLate.by (Cls ((b,.arr T.apiValue (q9o (l.flatMap Wv.row) l.length))::q6c T.uint8 st o) (accB o)) (Cls.self _ _) ?_
 repeat' (simp -dsimp -implicitDefEqProofs [-q5d, *])
 generalize hrow:q9o (l.flatMap Wv.row) l.length=RV
 refine xappend_box q6o q5w o ho hb [3#8] rfl rfl (by omega) (by omega) fun o1 ho1 hl1=>?_
 have hcl:=q6h (T:=T.uint8) ho1 (Cls_box (T:=T.uint8) (b:=b) (x:=.arr T.apiValue RV) (st:=st) o)
 refine⟨hcl, ?_⟩
 clear hcl
 have kl:Hid (q5u o1=q5u o++[3#8]):=⟨hl1⟩
 clear hl1
 repeat' (simp -dsimp -implicitDefEqProofs [-q5d, *])
 refine q5h (k7h l.length (by omega) o1 _ ho1 (by rw [kl.out]; simp; omega)) ?_
 rintro e st2 ⟨o2,ho2,hl2,rfl,rfl⟩
 rw [q5v]
 have kl2:Hid (q5u o2=q5u o++3#8::k0v l.length):=⟨by rw [hl2,kl.out]; simp⟩
 clear hl2 kl
 have hcl:=q6h (T:=T.uint8) ho2 (Cls_box (T:=T.uint8) (b:=b) (x:=.arr T.apiValue RV) (st:=st) o)
 refine⟨hcl, ?_⟩
 clear hcl
 subst hrow
 have hgb:=k1v (T:=T.uint8) ho2 (b:=b) (x:=.arr T.apiValue (q9o (l.flatMap Wv.row) l.length)) (by simp)
 repeat' (simp -dsimp -implicitDefEqProofs [-q5d, *])
 clear hgb
 have hle:∀ q:Option (Acc (BitVec 8)),StLe (q6c T.uint8 st q) (q6c T.uint8 ((b,.arr T.apiValue (q9o (l.flatMap Wv.row) l.length))::st) q):=fun q=>StLe.box q hns
 have hub:∀ q:Option (Acc (BitVec 8)),accOk q5k 1 ((b,.arr T.apiValue (q9o (l.flatMap Wv.row) l.length))::st) q->accOk q5k 1 st q:=fun q=>accOk.unbox
 generalize (b,PObj.arr T.apiValue (q9o (l.flatMap Wv.row) l.length))::st=st1 at *
 have kf:Hid ((∀ q,StLe (q6c T.uint8 st q) (q6c T.uint8 st1 q))/\∀ q,accOk q5k 1 st1 q->accOk q5k 1 st q):=⟨hle,hub⟩
 clear hle hub hnb hns hb
 have kok:Hid (∀ v ∈ l,v.Ok (M+210000) tab):=⟨hok⟩
 clear hok
 refine q5e (fun y:Nat × Option (Acc (BitVec 8))=>[(0,q7n y.2),(2,j1h tab),(17,.list false (l.flatMap Wv.row) l.length),(18,.int l.length),(19,.int (y.1:Nat))]) (fun y=>q6c T.uint8 st1 y.2) (fun y=>y.1<=l.length/\accOk q5k 1 st1 y.2/\q5u y.2=q5u o++3#8::(k0v l.length++(l.take y.1).flatMap Wv.B)) (fun y=>l.length-y.1) (0,o2) ⟨by omega,ho2,by rw [kl2.out]; simp⟩ (by simp) (.refl _) ?_
 clear kl2 ho2
 clear o2
 rintro⟨i,q⟩ ⟨hi,hq,hql⟩
 simp only at hi hq hql
 have kl:Hid (q5u q=q5u o++3#8::(k0v l.length++(l.take i).flatMap Wv.B)):=⟨hql⟩
 clear hql
 by_cases hil:i<l.length
 ·have hv:=kok.out l[i] (List.getElem_mem hil)
  have hs:=q7i (enc:=Wv.row) (k:=4) (fun _=>rfl) l i hil
  have kB:Hid ((l.take (i+1)).flatMap Wv.B=(l.take i).flatMap Wv.B++l[i].B):=⟨by rw [List.take_succ_eq_append_getElem hil,List.flatMap_append,List.flatMap_cons,List.flatMap_nil,List.append_nil]⟩
  have hfl:=q53 (enc:=Wv.row) (k:=4) (fun _=>rfl) l
  have hwi:=q5f (n:=i) (by omega)
  obtain⟨hk,hB,g,cs,htab,hrun⟩:=hv
  have kr:Hid (∀ (o:Option (Acc (BitVec 8))) (st:q5c),accOk q5k 1 st o->(q5u o).length<=M+210000 ->
   PCalls P g ([q7n o,.agg l[i].row]++cs) (q6c T.uint8 st o) (j5v st (q5u o++l[i].B))):=⟨hrun⟩
  clear hrun
  generalize l[i]=v at *
  obtain⟨k,c1,c2,c3,B⟩:=v
  simp only [Wv.row] at hk htab hB hs
  generalize hrows:l.flatMap Wv.row=rows at *
  repeat' (first 
   | (with_reducible refine Fresh.intro fun b hb=>?_) <;> (try simp -dsimp -implicitDefEqProofs [*] at hb)
   | (simp -dsimp -implicitDefEqProofs [-q5d, *]))
  revert b
  intro x hx
  obtain⟨hnb,hns⟩:=accB_new hx
  refine DrawLate.by (Cls ((x,.arr T.apiValue [.int (k:Int),c1,c2,c3])::q6c T.uint8 st1 q) (accB q)) (Cls.self _ _) ?_
  repeat' (first 
   | ((with_reducible refine q5r ?_ fun hk=>?_); omega)
   | (simp -dsimp -implicitDefEqProofs [-q5d, *]))
  have hlq:(q5u q).length<=M+210000:=by
   rw [kl.out]
   have h1:=k5u (l.take i) fun v hv=>(kok.out v (List.mem_of_mem_take hv)).B
   have h2:=q63 (n:=l.length) (by omega)
   simp only [List.length_append,List.length_cons,List.length_take] at h1 ⊢
   omega
  refine q5h (PCalls.le (StLe.rebox hx) (kr.out q ((x,.arr T.apiValue [.int (k:Int),c1,c2,c3])::st1) (accOk.box hx hq) hlq)) ?_
  rintro e st2 ⟨q2,hq2,hl2,rfl,rfl⟩
  rw [q5v]
  have kl2:Hid (q5u q2=q5u o++3#8::(k0v l.length++(l.take (i+1)).flatMap Wv.B)):=⟨by rw [hl2,kl.out,kB.out]; simp⟩
  clear hl2 kl hlq kr kB
  have hcl:=q6h (T:=T.uint8) hq2 (Cls_box (T:=T.uint8) (b:=x) (x:=.arr T.apiValue [.int (k:Int),c1,c2,c3]) (st:=st1) q)
  refine⟨hcl, ?_⟩
  clear hcl
  have hle:=StLe.box (T:=T.uint8) (x:=.arr T.apiValue [.int (k:Int),c1,c2,c3]) q2 hns
  repeat' (simp -dsimp -implicitDefEqProofs [-q5d, *])
  exact Next.intro (i+1,q2) ⟨by simp only; omega,accOk.unbox hq2,kl2.out⟩ (by simp only; omega) (by simp) (by simpa using hle)
 ·have e:i=l.length:=by omega
  subst e
  have kl2:Hid (q5u q=q5u o++3#8::(k0v l.length++l.flatMap Wv.B)):=⟨by rw [kl.out,List.take_length]⟩
  clear kl
  repeat' (simp -dsimp -implicitDefEqProofs [-q5d, *])
  exact .drop (kf.out.1 q) ⟨q,kf.out.2 q hq,kl2.out,rfl,rfl⟩
open Go.Pv Go.Pv.Cd
set_option maxRecDepth 100000
set_option maxHeartbeats 16000000
def k6b (l:List (BitVec 8)):ByteArray:=⟨(l.map UInt8.ofBitVec).toArray⟩
mutual
def q6n:Vl->List PV
 | .int n=>[.int 1,.int n,q6y,.nil]
 | .text s=>[.int 2,.int 0,.str (k6b s),.nil]
 | .list l=>[.int 3,.int 0,q6y,.list false (q8t l) l.length]
def q8t:List Vl->List PV
 | []=>[]
 | v::l=>q6n v++q8t l
end
theorem q89:∀ l:List (BitVec 8),q8n (q5k l)=some (l.map UInt8.ofBitVec)
 | []=>rfl
 | x::l=>by
  have h:=x.isLt
  show (if 0<=((x.toNat:Nat):Int)/\((x.toNat:Nat):Int)<256 then (q8n (q5k l)).map (UInt8.ofNat (((x.toNat:Nat):Int)).toNat::·) else none)=_
  rw [if_pos ⟨by omega,by omega⟩,q89 l]
  simp
theorem k5v:∀ l:List Vl,(q8t l).length=l.length*4
 | []=>rfl
 | v::l=>by
  have h:(q6n v).length=4:=by cases v <;> rfl
  rw [q8t,List.length_append,k5v l,h,List.length_cons]
  omega
theorem k7i:∀ l m:List Vl,q8t (l++m)=q8t l++q8t m
 | [],_=>rfl
 | v::l,m=>by rw [List.cons_append,q8t,q8t,k7i l m,List.append_assoc]
theorem j5w (v:Vl):q8t [v]=q6n v:=by rw [q8t,q8t,List.append_nil]
@[simp] theorem k3q (v:Vl):(q6n v).length=4:=by cases v <;> rfl
def ValP (d:Nat)(L:List (BitVec 8))(b:Nat)(st:q5c)(e:PEnd)(s:q5c):Prop:=match decV d L with
 | some (v,r)=>e=.ret (.agg (q6n v))/\s=(b,rdO r)::st
 | none=>e=.panic q8s/\s=st
theorem ValP.no {d:Nat}{L:List (BitVec 8)}{b:Nat}{st:q5c}(h:decV d L=none):ValP d L b st (.panic q8s) st:=by
 unfold ValP
 rw [h]
 exact⟨rfl,rfl⟩
theorem ValP.yes {d:Nat}{L r:List (BitVec 8)}{b:Nat}{v:Vl}{st:q5c}(h:decV d L=some (v,r)):ValP d L b st (.ret (.agg (q6n v))) ((b,rdO r)::st):=by
 unfold ValP
 rw [h]
 exact⟨rfl,rfl⟩
theorem PanD.le {P:Program}{g:FuncId}{ps:List PV}{st0 st st':q5c}{p:PV}(h:PanD P g ps st p st')(hle:StLe st st0):PanD P g ps st0 p st':=PCalls.le hle h
abbrev v0:List PV:=[.int 0,.int 0,q6y,.nil]
theorem k25 (c:BitVec 8)(r:List (BitVec 8))(b w:Nat)(x:PObj)(st:q5c)(hb:q50 st b)(hne:¬ b=w/\¬ w=b):Does P F.q0z [.ptr b 0,.int 1] ((w,x)::(b,rdO (c::r))::st) (.list true [bv c] 1) ((b,rdO r)::(w,x)::st):=
 (k3p c r b ((w,x)::st) ⟨⟨hne.2,hne.1⟩,hb⟩).le (StLe.swap hne.1)
theorem j5x (b w:Nat)(x:PObj)(st:q5c)(hb:q50 st b)(hne:¬ b=w/\¬ w=b):PanD P F.q0z [.ptr b 0,.int 1] ((w,x)::(b,rdO [])::st) q8s ((w,x)::st):=
 (j1f b ((w,x)::st) ⟨⟨hne.2,hne.1⟩,hb⟩).le (StLe.swap hne.1)
theorem PsLeV.vcells:∀ {ps qs:List PV} (_:PsLe ps qs) (I:Imm) (vs:List Value),vcells I ps vs->vcells I qs vs
 | [],[],_,_,_,h=>h
 | p::ps,q::qs,hw,I,[],h=>by simp [Go.Pv.vcells] at h
 | p::ps,q::qs,hw,I,v::vs,h=>by
  simp only [Go.Pv.vcells] at h ⊢
  exact⟨⟨hw.1 I v h.1.1,h.1.2⟩,PsLeV.vcells hw.2 I vs h.2⟩
theorem PLeV.aggs {ps qs:List PV}(h:PsLe ps qs):PLe (.agg ps) (.agg qs):=fun I v hv=>by
 simp only [vrep] at hv ⊢
 obtain⟨vs,h1,h2⟩:=hv
 exact⟨vs,h1,PsLeV.vcells h I vs h2⟩
theorem SeesV.le {p q:PV}{st:q5c}(h:PLe p q):Sees p st q st:=⟨fun I _ v h1 h2=>⟨I,I.le_refl,h1,h I v h2⟩⟩
theorem j1i {α:Type}{row:List α->List PV}{k:Nat}{w:Nat}{x:PObj}{st:q5c}{o:Option (Acc α)}(h:accOk row k ((w,x)::st) o):¬ w ∈ accB o:=by
 cases o with
 | none=>simp [accB]
 | some a=>
  have:=h.2.1.1
  simp only [accB,List.mem_singleton]
  exact this
theorem j5y {α:Type}{row:List α->List PV}{k:Nat}{T:TypeId}{b:Nat}{x y:PObj}{st:q5c}{o o':Option (Acc α)}(ho':accOk row k ((b,y)::st) o'):Cls ((b,x)::q6c T st o) (b::accB o) (q6c T ((b,y)::st) o'):=fun c hc z hz=>by
 simp only [List.mem_cons,not_or] at hc
 obtain⟨h1,h2⟩:=hc
 have h3:¬ b=c:=fun e=>h1 e.symm
 have h4:q55 st c=some z:=by
  simp only [q55,if_neg h3] at hz
  cases o with
  | none=>exact hz
  | some a=>
   have h5:¬ a.b=c:=fun e=>h2 (by simp [accB,e])
   simpa [q6c,q55,h5] using hz
 cases o' with
 | none=>simp [q6c,q55,h3,h4]
 | some a=>
  have h6:¬ a.b=c:=fun e=>by
   have:=k1f ho'.2.2
   rw [e,h4] at this
   cases this
  simp [q6c,q55,h6,h3,h4]
theorem j2y:∀ (d:Nat),d<=16->∀ (L:List (BitVec 8)),L.length<=100000->∀ (b:Nat) (st:q5c),q50 st b->PCalls P F.q06 [.ptr b 0,.int (16-d:Int)] ((b,rdO L)::st) (ValP d L b st):=by
 intro d
 induction d using Nat.strongRecOn with
 | _ d ih=>
  intro hd L hL b st hb
  cases L with
  | nil=>
   have e:=Hid.mk (ValP.no (b:=b) (st:=st) (show decV d []=none by simp [decV]))
   refine H.q06.view q5l rfl rfl ?_
   repeat' (first 
    | (with_reducible refine Fresh.intro fun b hb=>?_) <;> (try simp -dsimp -implicitDefEqProofs [*] at hb)
    | (simp -dsimp -implicitDefEqProofs [*]))
   revert b; intro w hw
   refine PanD.xcall (j5x b w _ st hb hw.1) ?_
   repeat' (simp -dsimp -implicitDefEqProofs [*])
   exact RetView.drop (st':=st) q5m e.out
  | cons k R=>
   have hR:R.length<=100000:=by simp only [List.length_cons] at hL; omega
   have hbv:bv k=.val (.int .u8 (k.toNat:Nat)):=rfl
   have hkl:=k.isLt
   have hwk:IntKind.i64.wrap (k.toNat:Int)=k.toNat:=q5i (by omega) (by omega)
   have tn:=fun x hx=>k9n R hR b ((x:Nat × PObj)::st) hx
   have tl:=fun x hx=>z9c R hR b ((x:Nat × PObj)::st) hx
   by_cases h1:k.toNat=1
   ·have hk:Hid (k=1#8):=⟨BitVec.eq_of_toNat_eq h1⟩
    have hwc:IntKind.i64.wrap 1=1:=rfl
    refine H.q06.view q5l rfl rfl ?_
    repeat' (first 
     | (with_reducible refine Fresh.intro fun b hb=>?_) <;> (try simp -dsimp -implicitDefEqProofs [*] at hb)
     | (simp -dsimp -implicitDefEqProofs [*]))
    revert b; intro w hw
    refine Does.xcall (k25 k R b w _ st hb hw.1) ?_
    repeat' (simp -dsimp -implicitDefEqProofs [*])
    refine q5h (tn _ ⟨⟨hw.1.2,hw.1.1⟩,hb⟩) ?_
    clear tn tl
    intro e s h
    unfold NumP at h
    cases hn:k0u 0 R with
    | none=>
     rw [hn] at h
     obtain⟨e1,e2⟩:=h
     subst e1
     subst e2
     have e:=Hid.mk (ValP.no (d:=d) (L:=k::R) (b:=b) (st:=st) (by rw [hk.out,decV.eq_def]; simp [hn]))
     clear hn
     repeat' (simp -dsimp -implicitDefEqProofs [*])
     exact RetView.drop (st':=st) q5m e.out
    | some q=>
     obtain⟨u,r⟩:=q
     rw [hn] at h
     obtain⟨e1,e2⟩:=h
     subst e1
     subst e2
     have hi:=q70 0 R u r hn
     have hu:u<18446744073709551616:=by have:=hi.2.2 (by omega); omega
     have e:=Hid.mk (ValP.yes (d:=d) (L:=k::R) (b:=b) (v:=.int (zag u)) (r:=r) (st:=st) (by rw [hk.out,decV.eq_def]; simp [hn]))
     clear hn hi
     have sg:=fun st=>z9b u hu st
     repeat' (first 
      | (with_reducible refine Rets.xcall (sg _) ?_)
      | (simp -dsimp -implicitDefEqProofs [*]))
     exact RetView.drop (st':=(b,rdO r)::st) q5m e.out
   by_cases h2:k.toNat=2
   ·have hk:Hid (k=2#8):=⟨BitVec.eq_of_toNat_eq h2⟩
    have hwc:IntKind.i64.wrap 2=2:=rfl
    refine H.q06.view q5l rfl rfl ?_
    repeat' (first 
     | (with_reducible refine Fresh.intro fun b hb=>?_) <;> (try simp -dsimp -implicitDefEqProofs [*] at hb)
     | (simp -dsimp -implicitDefEqProofs [*]))
    revert b; intro w hw
    refine Does.xcall (k25 k R b w _ st hb hw.1) ?_
    repeat' (simp -dsimp -implicitDefEqProofs [*])
    refine q5h (tl _ ⟨⟨hw.1.2,hw.1.1⟩,hb⟩) ?_
    clear tn tl
    intro e s h
    unfold j8w y45 at h
    cases hn:k0u 0 R with
    | none=>
     rw [hn] at h
     obtain⟨e1,e2⟩:=h
     subst e1
     subst e2
     have e:=Hid.mk (ValP.no (d:=d) (L:=k::R) (b:=b) (st:=st) (by rw [hk.out,decV.eq_def]; simp [hn]))
     clear hn
     repeat' (simp -dsimp -implicitDefEqProofs [*])
     exact RetView.drop (st':=st) q5m e.out
    | some q=>
     obtain⟨u,r⟩:=q
     rw [hn] at h
     have hi:=q70 0 R u r hn
     have hr:r.length<=100000:=by
      have:=congrArg List.length hi.1
      rw [List.length_append] at this
      omega
     by_cases hl:u<=r.length
     case neg=>
      simp only [if_neg hl] at h
      obtain⟨e1,e2⟩:=h
      subst e1
      subst e2
      have e:=Hid.mk (ValP.no (d:=d) (L:=k::R) (b:=b) (st:=st) (by rw [hk.out,decV.eq_def]; simp [hn,hl]))
      clear hn hi
      repeat' (simp -dsimp -implicitDefEqProofs [*])
      exact RetView.drop (st':=st) q5m e.out
     simp only [if_pos hl] at h
     obtain⟨e1,e2⟩:=h
     subst e1
     subst e2
     have e:=Hid.mk (ValP.yes (d:=d) (L:=k::R) (b:=b) (v:=.text (r.take u)) (r:=r.drop u) (st:=st) (by rw [hk.out,decV.eq_def]; simp [hn,hl]))
     clear hn hi
     have hbs:=q89 (r.take u)
     have tk:=fun x hx=>j5u r u hl b ((x:Nat × PObj)::st) hx
     repeat' (first 
      | (with_reducible refine Does.xcall (tk _ (by simp [*])) ?_)
      | (simp -dsimp -implicitDefEqProofs [*]))
     exact RetView.drop (st':=(b,rdO (r.drop u))::st) q5m (by have h:=e.out; simp only [q6n,k6b,List.map_take] at h; exact h)
   by_cases h3:k.toNat=3
   ·have hk:Hid (k=3#8):=⟨BitVec.eq_of_toNat_eq h3⟩
    have hwc:IntKind.i64.wrap 3=3:=rfl
    cases d with
    | zero=>
     have e:=Hid.mk (ValP.no (d:=0) (L:=k::R) (b:=b) (st:=st) (by rw [hk.out,decV.eq_def]; simp))
     clear tn tl ih
     refine H.q06.view q5l rfl rfl ?_
     repeat' (first 
      | (with_reducible refine Fresh.intro fun b hb=>?_) <;> (try simp -dsimp -implicitDefEqProofs [*] at hb)
      | (simp -dsimp -implicitDefEqProofs [*]))
     revert b; intro w hw
     refine Does.xcall (k25 k R b w _ st hb hw.1) ?_
     repeat' (first 
      | (with_reducible refine Panics.xcall (k4t _ _) ?_)
      | (simp -dsimp -implicitDefEqProofs [*]))
     exact RetView.drop (st':=st) q5m e.out
    | succ d=>
     have hdl:(16:Int)-(d+1)<16:=by omega
     have hw16:IntKind.i64.wrap ((16:Int)-(d+1)+1)=16-d:=by rw [q5i (by omega) (by omega)]; omega
     refine H.q06.view q5l rfl rfl ?_
     repeat' (first 
      | (with_reducible refine Fresh.intro fun b hb=>?_) <;> (try simp -dsimp -implicitDefEqProofs [*] at hb)
      | (simp -dsimp -implicitDefEqProofs [*]))
     revert b; intro w hw
     refine Does.xcall (k25 k R b w _ st hb hw.1) ?_
     repeat' (first 
      | (with_reducible refine Rets.xcall (k4s _ _) ?_)
      | (simp -dsimp -implicitDefEqProofs [*]))
     refine q5h (tl _ ⟨⟨hw.1.2,hw.1.1⟩,hb⟩) ?_
     clear tn tl
     intro e s h
     unfold j8w y45 at h
     cases hn:k0u 0 R with
     | none=>
      rw [hn] at h
      obtain⟨e1,e2⟩:=h
      subst e1
      subst e2
      have e:=Hid.mk (ValP.no (d:=d+1) (L:=k::R) (b:=b) (st:=st) (by rw [hk.out,decV.eq_def]; simp [hn]))
      clear hn ih
      repeat' (simp -dsimp -implicitDefEqProofs [*])
      exact RetView.drop (st':=st) q5m e.out
     | some q=>
      obtain⟨n,r⟩:=q
      rw [hn] at h
      have hi:=q70 0 R n r hn
      have hr:r.length<=100000:=by
       have:=congrArg List.length hi.1
       rw [List.length_append] at this
       omega
      by_cases hl:n<=r.length
      case neg=>
       simp only [if_neg hl] at h
       obtain⟨e1,e2⟩:=h
       subst e1
       subst e2
       have e:=Hid.mk (ValP.no (d:=d+1) (L:=k::R) (b:=b) (st:=st) (by rw [hk.out,decV.eq_def]; simp [hn,hl]))
       clear hn hi ih
       repeat' (simp -dsimp -implicitDefEqProofs [*])
       exact RetView.drop (st':=st) q5m e.out
      simp only [if_pos hl] at h
      obtain⟨e1,e2⟩:=h
      subst e1
      subst e2
      have eY:=Hid.mk fun l r' (h:k1t (decV d) n r=some (l,r'))=>ValP.yes (d:=d+1) (L:=k::R) (b:=b) (v:=.list l) (r:=r') (st:=st) (by rw [hk.out,decV.eq_def]; simp [hn,hl,h])
      have eN:=Hid.mk fun (h:k1t (decV d) n r=none)=>ValP.no (d:=d+1) (L:=k::R) (b:=b) (st:=st) (by rw [hk.out,decV.eq_def]; simp [hn,hl,h])
      clear hn hi hk hbv hkl hwk h1 h2 h3 hL hR
      replace ih:=Hid.mk (ih d (by omega) (by omega))
      repeat' (simp -dsimp -implicitDefEqProofs [*])
      refine q5e (fun y:Nat × Option (Acc Vl) × List (BitVec 8)=>[(0,.ptr b 0),(1,.int (16-(d+1):Int)),(4,.ptr w 0),(36,.int n),(37,.int y.1)]) (fun y=>(b,rdO y.2.2)::q6c T.apiValue ((w,.arr T.apiValue [.int 3,.int 0,q6y,q7n y.2.1])::st) y.2.1)
       (fun y=>y.1<=n/\accOk q8t 4 ((w,.arr T.apiValue [.int 3,.int 0,q6y,q7n y.2.1])::st) y.2.1/\q50 (q6c T.apiValue ((w,.arr T.apiValue [.int 3,.int 0,q6y,q7n y.2.1])::st) y.2.1) b/\Hid ((q5u y.2.1).length=y.1/\y.2.2.length<=100000/\k1t (decV d) n r=match k1t (decV d) (n-y.1) y.2.2 with | some (l,r')=>some (q5u y.2.1++l,r') | none=>none)) (fun y=>n-y.1) (0,none,r)
       ⟨Nat.zero_le _,trivial,⟨⟨hw.1.2,hw.1.1⟩,hb⟩,⟨rfl,hr,by cases k1t (decV d) n r with
        | none=>rfl
        | some q=>rfl⟩⟩ (by simp) (.refl _) ?_
      rintro⟨i,o,Ri⟩ ⟨hi,ho,hbn,hI⟩
      replace hi:i<=n:=hi
      replace ho:accOk q8t 4 ((w,.arr T.apiValue [.int 3,.int 0,q6y,q7n o])::st) o:=ho
      replace hbn:q50 (q6c T.apiValue ((w,.arr T.apiValue [.int 3,.int 0,q6y,q7n o])::st) o) b:=hbn
      replace hI:Hid ((q5u o).length=i/\Ri.length<=100000/\k1t (decV d) n r=match k1t (decV d) (n-i) Ri with | some (l,r')=>some (q5u o++l,r') | none=>none):=hI
      simp only
      have hg:=k1v (T:=T.apiValue) ho (b:=w) (x:=.arr T.apiValue [.int 3,.int 0,q6y,q7n o]) (by simp)
      by_cases hin:i<n
      case neg=>
       have e0:n-i=0:=by omega
       have e:=Hid.mk (eY.out (q5u o) Ri (by rw [hI.out.2.2,e0]; simp [k1t]))
       clear eY eN ih hI hg
       cases o with
       | none=>
        simp only [k1b,q8p] at ho hbn ⊢
        repeat' (simp -dsimp -implicitDefEqProofs [*])
        refine RetView.sees (SeesV.le (q:=.agg (q6n (.list []))) (PLeV.aggs ⟨.refl _,.refl _,.refl _,.nil1,trivial⟩)) ?_
        exact RetView.drop (st':=(b,rdO Ri)::st) q5m e.out
       | some a=>
        have hfr:=Frz.acc (T:=T.apiValue) ho.1
        obtain⟨A,ab,cap,C⟩:=a
        simp only [q65,q5y,q9x,q7e] at ho hbn e hfr ⊢
        obtain⟨ha,hn⟩:=ho
        replace hfr:=Hid.mk hfr
        replace ha:=Hid.mk ha
        simp only [q50] at hn hbn
        repeat' (simp -dsimp -implicitDefEqProofs [*])
        refine RetView.sees (st':=(ab,.arr T.apiValue C)::(b,rdO Ri)::st) (.drop (StLe.trans (StLe.swap hbn.1.1) q5m)) ?_
        exact RetView.freeze (.agg (q6n (.list A))) (by simp [*]) (.agg (.cons (.refl _) (.cons (.refl _) (.cons (.refl _) (.cons hfr.out .nil))))) (.same e.out)
      have hwi:=q5f (n:=i) (by omega)
      have hwo:=j1i ho
      repeat' (simp -dsimp -implicitDefEqProofs [-q5d, *])
      refine DrawLate.intro (b::accB o) ?_
      repeat' (simp -dsimp -implicitDefEqProofs [-q5d, *])
      refine q5h (ih.out Ri hI.out.2.1 b _ hbn) ?_
      intro e s h
      unfold ValP at h
      obtain⟨m,hm⟩:∃ m,n-i=m+1:=⟨n-i-1,by omega⟩
      cases hv:decV d Ri with
      | none=>
       rw [hv] at h
       obtain⟨e1,e2⟩:=h
       subst e1
       subst e2
       have e:=Hid.mk (eN.out (by rw [hI.out.2.2,hm]; simp [k1t,hv]))
       clear eY eN ih hI hv hg
       repeat' (simp -dsimp -implicitDefEqProofs [*])
       cases o with
       | none=>exact RetView.drop (st':=st) (.fresh hw.2) e.out
       | some a=>exact RetView.drop (st':=st) (StLe.trans (.fresh hw.2) (.fresh ho.2)) e.out
      | some q=>
       obtain⟨v,R2⟩:=q
       rw [hv] at h
       obtain⟨e1,e2⟩:=h
       subst e1
       subst e2
       have hR2:=(z3r d Ri v R2 hv).1
       have hlr:R2.length<=100000:=by
        have h1:=congrArg List.length hR2
        rw [List.length_append] at h1
        have:=hI.out.2.1
        omega
       have hX:Hid (k1t (decV d) n r=match k1t (decV d) (n-(i+1)) R2 with | some (l,r')=>some (q5u o++[v]++l,r') | none=>none):=⟨by
        rw [hI.out.2.2,hm,show n-(i+1)=m by omega]
        simp only [k1t,hv]
        cases k1t (decV d) m R2 with
        | none=>rfl
        | some q=>simp⟩
       have hol:Hid ((q5u o).length=i):=⟨hI.out.1⟩
       clear eY eN ih hI hv hR2 hm
       repeat' (simp -dsimp -implicitDefEqProofs [-q5d, *])
       refine xappend_box k5v k7i o ho hbn [v] (j5w v) rfl (by omega) (by rw [hol.out]; omega) fun o' ho' hl'=>?_
       refine⟨j5y ho', ?_⟩
       cases o' with
       | none=>exact absurd (congrArg List.length hl') (by simp)
       | some a=>
        have hn:=ho'.2
        obtain⟨A,ab,cap,C⟩:=a
        simp only [q65,q5y,q7e,q50] at hn hl' ⊢
        have hok:=Hid.mk ho'.1
        have hl2:Hid (A=q5u o++[v]):=⟨hl'⟩
        clear hl' ho' ho hbn hg
        repeat' (simp -dsimp -implicitDefEqProofs [*])
        refine Next.intro (i+1,some ⟨A,ab,cap,C⟩,R2) ⟨by simp only; omega,⟨hok.out, ?_⟩, ?_,⟨?_,hlr, ?_⟩⟩ (by simp only; omega) (by simp) ?_
        ·exact⟨⟨hn.2.1.1,hn.2.1.2⟩,hn.2.2⟩
        ·exact⟨⟨hn.1.2,hn.1.1⟩,⟨hw.1.2,hw.1.1⟩,hb⟩
        ·show A.length=i+1
         rw [hl2.out,List.length_append,hol.out]
         rfl
        ·rw [hX.out,<-hl2.out]
         rfl
        ·exact StLe.swap hn.1.1
   ·have e:=Hid.mk (ValP.no (d:=d) (L:=k::R) (b:=b) (st:=st) (by
     have n1:¬ k=1#8:=fun e=>h1 (by rw [e]; rfl)
     have n2:¬ k=2#8:=fun e=>h2 (by rw [e]; rfl)
     have n3:¬ k=3#8:=fun e=>h3 (by rw [e]; rfl)
     rw [decV.eq_def]
     simp [n1,n2,n3]))
    clear tn tl
    refine H.q06.view q5l rfl rfl ?_
    repeat' (first 
     | (with_reducible refine Fresh.intro fun b hb=>?_) <;> (try simp -dsimp -implicitDefEqProofs [*] at hb)
     | (simp -dsimp -implicitDefEqProofs [*]))
    revert b; intro w hw
    refine Does.xcall (k25 k R b w _ st hb hw.1) ?_
    repeat' (first 
     | (with_reducible refine Panics.xcall (k4t _ _) ?_)
     | (with_reducible refine And.intro (fun h=>?_) (fun h=>?_)) <;> (try (exfalso; omega))
     | (simp -dsimp -implicitDefEqProofs [*]))
    exact RetView.drop (st':=st) q5m e.out
end Go.Proofs.YtmlmoaimjifpgaaGreat
