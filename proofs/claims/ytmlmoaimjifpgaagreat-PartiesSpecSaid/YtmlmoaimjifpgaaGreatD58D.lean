/- The reader of encodings: values. -/
import Derived.Test.YtmlmoaimjifpgaaGreatC58G
import Derived.Test.YtmlmoaimjifpgaaGreatC58H
namespace Go.Proofs.YtmlmoaimjifpgaaGreat
open Go.Pv Go.Pv.Cd
set_option maxRecDepth 100000
set_option maxHeartbeats 16000000
def k60 (l:List (BitVec 8)):ByteArray:=⟨(l.map UInt8.ofBitVec).toArray⟩
mutual
def q6t:Vl->List PV
 | .int n=>[.int 1,.int n,q64,.nil]
 | .text s=>[.int 2,.int 0,.str (k60 s),.nil]
 | .list l=>[.int 3,.int 0,q64,.list false (q81 l) l.length]
def q81:List Vl->List PV
 | []=>[]
 | v::l=>q6t v++q81 l
end
theorem q9h:∀ l:List (BitVec 8),q8t (q5p l)=some (l.map UInt8.ofBitVec)
 | []=>rfl
 | x::l=>by
  have h:=x.isLt
  show (if 0<=((x.toNat:Nat):Int)/\((x.toNat:Nat):Int)<256 then (q8t (q5p l)).map (UInt8.ofNat (((x.toNat:Nat):Int)).toNat::·) else none)=_
  rw [if_pos ⟨by omega,by omega⟩,q9h l]
  simp
theorem k5z:∀ l:List Vl,(q81 l).length=l.length*4
 | []=>rfl
 | v::l=>by
  have h:(q6t v).length=4:=by cases v <;> rfl
  rw [q81,List.length_append,k5z l,h,List.length_cons]
  omega
theorem k7p:∀ l m:List Vl,q81 (l++m)=q81 l++q81 m
 | [],_=>rfl
 | v::l,m=>by rw [List.cons_append,q81,q81,k7p l m,List.append_assoc]
theorem j5m (v:Vl):q81 [v]=q6t v:=by rw [q81,q81,List.append_nil]
@[simp] theorem k3z (v:Vl):(q6t v).length=4:=by cases v <;> rfl
def ValP (d:Nat)(L:List (BitVec 8))(b:Nat)(st:q5f)(e:PEnd)(s:q5f):Prop:=match decV d L with
 | some (v,r)=>e=.ret (.agg (q6t v))/\s=(b,rdO r)::st
 | none=>e=.panic q80/\s=st
theorem ValP.no {d:Nat}{L:List (BitVec 8)}{b:Nat}{st:q5f}(h:decV d L=none):ValP d L b st (.panic q80) st:=by
 unfold ValP
 rw [h]
 exact⟨rfl,rfl⟩
theorem ValP.yes {d:Nat}{L r:List (BitVec 8)}{b:Nat}{v:Vl}{st:q5f}(h:decV d L=some (v,r)):ValP d L b st (.ret (.agg (q6t v))) ((b,rdO r)::st):=by
 unfold ValP
 rw [h]
 exact⟨rfl,rfl⟩
theorem PanD.le {P:Program}{g:FuncId}{ps:List PV}{st0 st st':q5f}{p:PV}(h:PanD P g ps st p st')(hle:StLe st st0):PanD P g ps st0 p st':=PCalls.le hle h
abbrev v0:List PV:=[.int 0,.int 0,q64,.nil]
theorem k3b (c:BitVec 8)(r:List (BitVec 8))(b w:Nat)(x:PObj)(st:q5f)(hb:q54 st b)(hne:¬ b=w/\¬ w=b):Does P F.q00 [.ptr b 0,.int 1] ((w,x)::(b,rdO (c::r))::st) (.list true [bv c] 1) ((b,rdO r)::(w,x)::st):=
 (k3y c r b ((w,x)::st) ⟨⟨hne.2,hne.1⟩,hb⟩).le (StLe.swap hne.1)
theorem j5n (b w:Nat)(x:PObj)(st:q5f)(hb:q54 st b)(hne:¬ b=w/\¬ w=b):PanD P F.q00 [.ptr b 0,.int 1] ((w,x)::(b,rdO [])::st) q80 ((w,x)::st):=
 (j05 b ((w,x)::st) ⟨⟨hne.2,hne.1⟩,hb⟩).le (StLe.swap hne.1)
theorem PsLeV.vcells:∀ {ps qs:List PV} (_:PsLe ps qs) (I:Imm) (vs:List Value),vcells I ps vs->vcells I qs vs
 | [],[],_,_,_,h=>h
 | p::ps,q::qs,hw,I,[],h=>by simp [Go.Pv.vcells] at h
 | p::ps,q::qs,hw,I,v::vs,h=>by
  simp only [Go.Pv.vcells] at h ⊢
  exact⟨⟨hw.1 I v h.1.1,h.1.2⟩,PsLeV.vcells hw.2 I vs h.2⟩
theorem PLeV.aggs {ps qs:List PV}(h:PsLe ps qs):PLe (.agg ps) (.agg qs):=fun I v hv=>by
 simp only [vrep] at hv ⊢
 obtain⟨vs,h1,h2⟩:=hv
 exact⟨vs,h1,PsLeV.vcells h I vs h2⟩
theorem SeesV.le {p q:PV}{st:q5f}(h:PLe p q):Sees p st q st:=⟨fun I _ v h1 h2=>⟨I,I.le_refl,h1,h I v h2⟩⟩
theorem j08 {α:Type}{row:List α->List PV}{k:Nat}{w:Nat}{x:PObj}{st:q5f}{o:Option (Acc α)}(h:accOk row k ((w,x)::st) o):¬ w ∈ accB o:=by
 cases o with
 | none=>simp [accB]
 | some a=>
  have:=h.2.1.1
  simp only [accB,List.mem_singleton]
  exact this
theorem j5o {α:Type}{row:List α->List PV}{k:Nat}{T:TypeId}{b:Nat}{x y:PObj}{st:q5f}{o o':Option (Acc α)}(ho':accOk row k ((b,y)::st) o'):Cls ((b,x)::q6e T st o) (b::accB o) (q6e T ((b,y)::st) o'):=fun c hc z hz=>by
 simp only [List.mem_cons,not_or] at hc
 obtain⟨h1,h2⟩:=hc
 have h3:¬ b=c:=fun e=>h1 e.symm
 have h4:q55 st c=some z:=by
  simp only [q55,if_neg h3] at hz
  cases o with
  | none=>exact hz
  | some a=>
   have h5:¬ a.b=c:=fun e=>h2 (by simp [accB,e])
   simpa [q6e,q55,h5] using hz
 cases o' with
 | none=>simp [q6e,q55,h3,h4]
 | some a=>
  have h6:¬ a.b=c:=fun e=>by
   have:=k1r ho'.2.2
   rw [e,h4] at this
   cases this
  simp [q6e,q55,h6,h3,h4]
theorem j2n:∀ (d:Nat),d<=16->∀ (L:List (BitVec 8)),L.length<=100000->∀ (b:Nat) (st:q5f),q54 st b->PCalls P F.q06 [.ptr b 0,.int (16-d:Int)] ((b,rdO L)::st) (ValP d L b st):=by
 intro d
 induction d using Nat.strongRecOn with
 | _ d ih=>
  intro hd L hL b st hb
  cases L with
  | nil=>
   have e:=Hid.mk (ValP.no (b:=b) (st:=st) (show decV d []=none by simp [decV]))
   refine H.q06.view q5n rfl rfl ?_
   repeat' (first 
    | (with_reducible refine Fresh.intro fun b hb=>?_) <;> (try simp -dsimp -implicitDefEqProofs [*] at hb)
    | (simp -dsimp -implicitDefEqProofs [*]))
   revert b; intro w hw
   refine PanD.xcall (j5n b w _ st hb hw.1) ?_
   repeat' (simp -dsimp -implicitDefEqProofs [*])
   exact RetView.drop (st':=st) q5o e.out
  | cons k R=>
   have hR:R.length<=100000:=by simp only [List.length_cons] at hL; omega
   have hbv:bv k=.val (.int .u8 (k.toNat:Nat)):=rfl
   have hkl:=k.isLt
   have hwk:IntKind.i64.wrap (k.toNat:Int)=k.toNat:=q5l (by omega) (by omega)
   have tn:=fun x hx=>k9n R hR b ((x:Nat × PObj)::st) hx
   have tl:=fun x hx=>z82 R hR b ((x:Nat × PObj)::st) hx
   by_cases h1:k.toNat=1
   ·have hk:Hid (k=1#8):=⟨BitVec.eq_of_toNat_eq h1⟩
    have hwc:IntKind.i64.wrap 1=1:=rfl
    refine H.q06.view q5n rfl rfl ?_
    repeat' (first 
     | (with_reducible refine Fresh.intro fun b hb=>?_) <;> (try simp -dsimp -implicitDefEqProofs [*] at hb)
     | (simp -dsimp -implicitDefEqProofs [*]))
    revert b; intro w hw
    refine Does.xcall (k3b k R b w _ st hb hw.1) ?_
    repeat' (simp -dsimp -implicitDefEqProofs [*])
    refine q5k (tn _ ⟨⟨hw.1.2,hw.1.1⟩,hb⟩) ?_
    clear tn tl
    intro e s h
    unfold NumP at h
    cases hn:k05 0 R with
    | none=>
     rw [hn] at h
     obtain⟨e1,e2⟩:=h
     subst e1
     subst e2
     have e:=Hid.mk (ValP.no (d:=d) (L:=k::R) (b:=b) (st:=st) (by rw [hk.out,decV.eq_def]; simp [hn]))
     clear hn
     repeat' (simp -dsimp -implicitDefEqProofs [*])
     exact RetView.drop (st':=st) q5o e.out
    | some q=>
     obtain⟨u,r⟩:=q
     rw [hn] at h
     obtain⟨e1,e2⟩:=h
     subst e1
     subst e2
     have hi:=q75 0 R u r hn
     have hu:u<18446744073709551616:=by have:=hi.2.2 (by omega); omega
     have e:=Hid.mk (ValP.yes (d:=d) (L:=k::R) (b:=b) (v:=.int (zag u)) (r:=r) (st:=st) (by rw [hk.out,decV.eq_def]; simp [hn]))
     clear hn hi
     have sg:=fun st=>z81 u hu st
     repeat' (first 
      | (with_reducible refine Rets.xcall (sg _) ?_)
      | (simp -dsimp -implicitDefEqProofs [*]))
     exact RetView.drop (st':=(b,rdO r)::st) q5o e.out
   by_cases h2:k.toNat=2
   ·have hk:Hid (k=2#8):=⟨BitVec.eq_of_toNat_eq h2⟩
    have hwc:IntKind.i64.wrap 2=2:=rfl
    refine H.q06.view q5n rfl rfl ?_
    repeat' (first 
     | (with_reducible refine Fresh.intro fun b hb=>?_) <;> (try simp -dsimp -implicitDefEqProofs [*] at hb)
     | (simp -dsimp -implicitDefEqProofs [*]))
    revert b; intro w hw
    refine Does.xcall (k3b k R b w _ st hb hw.1) ?_
    repeat' (simp -dsimp -implicitDefEqProofs [*])
    refine q5k (tl _ ⟨⟨hw.1.2,hw.1.1⟩,hb⟩) ?_
    clear tn tl
    intro e s h
    unfold j8r y45 at h
    cases hn:k05 0 R with
    | none=>
     rw [hn] at h
     obtain⟨e1,e2⟩:=h
     subst e1
     subst e2
     have e:=Hid.mk (ValP.no (d:=d) (L:=k::R) (b:=b) (st:=st) (by rw [hk.out,decV.eq_def]; simp [hn]))
     clear hn
     repeat' (simp -dsimp -implicitDefEqProofs [*])
     exact RetView.drop (st':=st) q5o e.out
    | some q=>
     obtain⟨u,r⟩:=q
     rw [hn] at h
     have hi:=q75 0 R u r hn
     have hr:r.length<=100000:=by
      have:=congrArg List.length hi.1
      rw [List.length_append] at this
      omega
     by_cases hl:u<=r.length
     case neg=>
      simp only [if_neg hl] at h
      obtain⟨e1,e2⟩:=h
      subst e1
      subst e2
      have e:=Hid.mk (ValP.no (d:=d) (L:=k::R) (b:=b) (st:=st) (by rw [hk.out,decV.eq_def]; simp [hn,hl]))
      clear hn hi
      repeat' (simp -dsimp -implicitDefEqProofs [*])
      exact RetView.drop (st':=st) q5o e.out
     simp only [if_pos hl] at h
     obtain⟨e1,e2⟩:=h
     subst e1
     subst e2
     have e:=Hid.mk (ValP.yes (d:=d) (L:=k::R) (b:=b) (v:=.text (r.take u)) (r:=r.drop u) (st:=st) (by rw [hk.out,decV.eq_def]; simp [hn,hl]))
     clear hn hi
     have hbs:=q9h (r.take u)
     have tk:=fun x hx=>j5k r u hl b ((x:Nat × PObj)::st) hx
     repeat' (first 
      | (with_reducible refine Does.xcall (tk _ (by simp [*])) ?_)
      | (simp -dsimp -implicitDefEqProofs [*]))
     exact RetView.drop (st':=(b,rdO (r.drop u))::st) q5o (by have h:=e.out; simp only [q6t,k60,List.map_take] at h; exact h)
   by_cases h3:k.toNat=3
   ·have hk:Hid (k=3#8):=⟨BitVec.eq_of_toNat_eq h3⟩
    have hwc:IntKind.i64.wrap 3=3:=rfl
    cases d with
    | zero=>
     have e:=Hid.mk (ValP.no (d:=0) (L:=k::R) (b:=b) (st:=st) (by rw [hk.out,decV.eq_def]; simp))
     clear tn tl ih
     refine H.q06.view q5n rfl rfl ?_
     repeat' (first 
      | (with_reducible refine Fresh.intro fun b hb=>?_) <;> (try simp -dsimp -implicitDefEqProofs [*] at hb)
      | (simp -dsimp -implicitDefEqProofs [*]))
     revert b; intro w hw
     refine Does.xcall (k3b k R b w _ st hb hw.1) ?_
     repeat' (first 
      | (with_reducible refine Panics.xcall (k40 _ _) ?_)
      | (simp -dsimp -implicitDefEqProofs [*]))
     exact RetView.drop (st':=st) q5o e.out
    | succ d=>
     have hdl:(16:Int)-(d+1)<16:=by omega
     have hw16:IntKind.i64.wrap ((16:Int)-(d+1)+1)=16-d:=by rw [q5l (by omega) (by omega)]; omega
     refine H.q06.view q5n rfl rfl ?_
     repeat' (first 
      | (with_reducible refine Fresh.intro fun b hb=>?_) <;> (try simp -dsimp -implicitDefEqProofs [*] at hb)
      | (simp -dsimp -implicitDefEqProofs [*]))
     revert b; intro w hw
     refine Does.xcall (k3b k R b w _ st hb hw.1) ?_
     repeat' (first 
      | (with_reducible refine Rets.xcall (k4z _ _) ?_)
      | (simp -dsimp -implicitDefEqProofs [*]))
     refine q5k (tl _ ⟨⟨hw.1.2,hw.1.1⟩,hb⟩) ?_
     clear tn tl
     intro e s h
     unfold j8r y45 at h
     cases hn:k05 0 R with
     | none=>
      rw [hn] at h
      obtain⟨e1,e2⟩:=h
      subst e1
      subst e2
      have e:=Hid.mk (ValP.no (d:=d+1) (L:=k::R) (b:=b) (st:=st) (by rw [hk.out,decV.eq_def]; simp [hn]))
      clear hn ih
      repeat' (simp -dsimp -implicitDefEqProofs [*])
      exact RetView.drop (st':=st) q5o e.out
     | some q=>
      obtain⟨n,r⟩:=q
      rw [hn] at h
      have hi:=q75 0 R n r hn
      have hr:r.length<=100000:=by
       have:=congrArg List.length hi.1
       rw [List.length_append] at this
       omega
      by_cases hl:n<=r.length
      case neg=>
       simp only [if_neg hl] at h
       obtain⟨e1,e2⟩:=h
       subst e1
       subst e2
       have e:=Hid.mk (ValP.no (d:=d+1) (L:=k::R) (b:=b) (st:=st) (by rw [hk.out,decV.eq_def]; simp [hn,hl]))
       clear hn hi ih
       repeat' (simp -dsimp -implicitDefEqProofs [*])
       exact RetView.drop (st':=st) q5o e.out
      simp only [if_pos hl] at h
      obtain⟨e1,e2⟩:=h
      subst e1
      subst e2
      have eY:=Hid.mk fun l r' (h:k2d (decV d) n r=some (l,r'))=>ValP.yes (d:=d+1) (L:=k::R) (b:=b) (v:=.list l) (r:=r') (st:=st) (by rw [hk.out,decV.eq_def]; simp [hn,hl,h])
      have eN:=Hid.mk fun (h:k2d (decV d) n r=none)=>ValP.no (d:=d+1) (L:=k::R) (b:=b) (st:=st) (by rw [hk.out,decV.eq_def]; simp [hn,hl,h])
      clear hn hi hk hbv hkl hwk h1 h2 h3 hL hR
      replace ih:=Hid.mk (ih d (by omega) (by omega))
      repeat' (simp -dsimp -implicitDefEqProofs [*])
      refine q5h (fun y:Nat × Option (Acc Vl) × List (BitVec 8)=>[(0,.ptr b 0),(1,.int (16-(d+1):Int)),(4,.ptr w 0),(36,.int n),(37,.int y.1)]) (fun y=>(b,rdO y.2.2)::q6e T.apiValue ((w,.arr T.apiValue [.int 3,.int 0,q64,q7s y.2.1])::st) y.2.1)
       (fun y=>y.1<=n/\accOk q81 4 ((w,.arr T.apiValue [.int 3,.int 0,q64,q7s y.2.1])::st) y.2.1/\q54 (q6e T.apiValue ((w,.arr T.apiValue [.int 3,.int 0,q64,q7s y.2.1])::st) y.2.1) b/\Hid ((q50 y.2.1).length=y.1/\y.2.2.length<=100000/\k2d (decV d) n r=match k2d (decV d) (n-y.1) y.2.2 with | some (l,r')=>some (q50 y.2.1++l,r') | none=>none)) (fun y=>n-y.1) (0,none,r)
       ⟨Nat.zero_le _,trivial,⟨⟨hw.1.2,hw.1.1⟩,hb⟩,⟨rfl,hr,by cases k2d (decV d) n r with
        | none=>rfl
        | some q=>rfl⟩⟩ (by simp) (.refl _) ?_
      rintro⟨i,o,Ri⟩ ⟨hi,ho,hbn,hI⟩
      replace hi:i<=n:=hi
      replace ho:accOk q81 4 ((w,.arr T.apiValue [.int 3,.int 0,q64,q7s o])::st) o:=ho
      replace hbn:q54 (q6e T.apiValue ((w,.arr T.apiValue [.int 3,.int 0,q64,q7s o])::st) o) b:=hbn
      replace hI:Hid ((q50 o).length=i/\Ri.length<=100000/\k2d (decV d) n r=match k2d (decV d) (n-i) Ri with | some (l,r')=>some (q50 o++l,r') | none=>none):=hI
      simp only
      have hg:=k0w (T:=T.apiValue) ho (b:=w) (x:=.arr T.apiValue [.int 3,.int 0,q64,q7s o]) (by simp)
      by_cases hin:i<n
      case neg=>
       have e0:n-i=0:=by omega
       have e:=Hid.mk (eY.out (q50 o) Ri (by rw [hI.out.2.2,e0]; simp [k2d]))
       clear eY eN ih hI hg
       cases o with
       | none=>
        simp only [k1l,q8w] at ho hbn ⊢
        repeat' (simp -dsimp -implicitDefEqProofs [*])
        refine RetView.sees (SeesV.le (q:=.agg (q6t (.list []))) (PLeV.aggs ⟨.refl _,.refl _,.refl _,.nil1,trivial⟩)) ?_
        exact RetView.drop (st':=(b,rdO Ri)::st) q5o e.out
       | some a=>
        have hfr:=Frz.acc (T:=T.apiValue) ho.1
        obtain⟨A,ab,cap,C⟩:=a
        simp only [q7b,q52,q97,q7k] at ho hbn e hfr ⊢
        obtain⟨ha,hn⟩:=ho
        replace hfr:=Hid.mk hfr
        replace ha:=Hid.mk ha
        simp only [q54] at hn hbn
        repeat' (simp -dsimp -implicitDefEqProofs [*])
        refine RetView.sees (st':=(ab,.arr T.apiValue C)::(b,rdO Ri)::st) (.drop (StLe.trans (StLe.swap hbn.1.1) q5o)) ?_
        exact RetView.freeze (.agg (q6t (.list A))) (by simp [*]) (.agg (.cons (.refl _) (.cons (.refl _) (.cons (.refl _) (.cons hfr.out .nil))))) (.same e.out)
      have hwi:=q5i (n:=i) (by omega)
      have hwo:=j08 ho
      repeat' (simp -dsimp -implicitDefEqProofs [-q5g, *])
      refine DrawLate.intro (b::accB o) ?_
      repeat' (simp -dsimp -implicitDefEqProofs [-q5g, *])
      refine q5k (ih.out Ri hI.out.2.1 b _ hbn) ?_
      intro e s h
      unfold ValP at h
      obtain⟨m,hm⟩:∃ m,n-i=m+1:=⟨n-i-1,by omega⟩
      cases hv:decV d Ri with
      | none=>
       rw [hv] at h
       obtain⟨e1,e2⟩:=h
       subst e1
       subst e2
       have e:=Hid.mk (eN.out (by rw [hI.out.2.2,hm]; simp [k2d,hv]))
       clear eY eN ih hI hv hg
       repeat' (simp -dsimp -implicitDefEqProofs [*])
       cases o with
       | none=>exact RetView.drop (st':=st) (.fresh hw.2) e.out
       | some a=>exact RetView.drop (st':=st) (StLe.trans (.fresh hw.2) (.fresh ho.2)) e.out
      | some q=>
       obtain⟨v,R2⟩:=q
       rw [hv] at h
       obtain⟨e1,e2⟩:=h
       subst e1
       subst e2
       have hR2:=(z3h d Ri v R2 hv).1
       have hlr:R2.length<=100000:=by
        have h1:=congrArg List.length hR2
        rw [List.length_append] at h1
        have:=hI.out.2.1
        omega
       have hX:Hid (k2d (decV d) n r=match k2d (decV d) (n-(i+1)) R2 with | some (l,r')=>some (q50 o++[v]++l,r') | none=>none):=⟨by
        rw [hI.out.2.2,hm,show n-(i+1)=m by omega]
        simp only [k2d,hv]
        cases k2d (decV d) m R2 with
        | none=>rfl
        | some q=>simp⟩
       have hol:Hid ((q50 o).length=i):=⟨hI.out.1⟩
       clear eY eN ih hI hv hR2 hm
       repeat' (simp -dsimp -implicitDefEqProofs [-q5g, *])
       refine xappend_box k5z k7p o ho hbn [v] (j5m v) rfl (by omega) (by rw [hol.out]; omega) fun o' ho' hl'=>?_
       refine⟨j5o ho', ?_⟩
       cases o' with
       | none=>exact absurd (congrArg List.length hl') (by simp)
       | some a=>
        have hn:=ho'.2
        obtain⟨A,ab,cap,C⟩:=a
        simp only [q7b,q52,q7k,q54] at hn hl' ⊢
        have hok:=Hid.mk ho'.1
        have hl2:Hid (A=q50 o++[v]):=⟨hl'⟩
        clear hl' ho' ho hbn hg
        repeat' (simp -dsimp -implicitDefEqProofs [*])
        refine Next.intro (i+1,some ⟨A,ab,cap,C⟩,R2) ⟨by simp only; omega,⟨hok.out, ?_⟩, ?_,⟨?_,hlr, ?_⟩⟩ (by simp only; omega) (by simp) ?_
        ·exact⟨⟨hn.2.1.1,hn.2.1.2⟩,hn.2.2⟩
        ·exact⟨⟨hn.1.2,hn.1.1⟩,⟨hw.1.2,hw.1.1⟩,hb⟩
        ·show A.length=i+1
         rw [hl2.out,List.length_append,hol.out]
         rfl
        ·rw [hX.out,<-hl2.out]
         rfl
        ·exact StLe.swap hn.1.1
   ·have e:=Hid.mk (ValP.no (d:=d) (L:=k::R) (b:=b) (st:=st) (by
     have n1:¬ k=1#8:=fun e=>h1 (by rw [e]; rfl)
     have n2:¬ k=2#8:=fun e=>h2 (by rw [e]; rfl)
     have n3:¬ k=3#8:=fun e=>h3 (by rw [e]; rfl)
     rw [decV.eq_def]
     simp [n1,n2,n3]))
    clear tn tl
    refine H.q06.view q5n rfl rfl ?_
    repeat' (first 
     | (with_reducible refine Fresh.intro fun b hb=>?_) <;> (try simp -dsimp -implicitDefEqProofs [*] at hb)
     | (simp -dsimp -implicitDefEqProofs [*]))
    revert b; intro w hw
    refine Does.xcall (k3b k R b w _ st hb hw.1) ?_
    repeat' (first 
     | (with_reducible refine Panics.xcall (k40 _ _) ?_)
     | (with_reducible refine And.intro (fun h=>?_) (fun h=>?_)) <;> (try (exfalso; omega))
     | (simp -dsimp -implicitDefEqProofs [*]))
    exact RetView.drop (st':=st) q5o e.out
open Go.Pv Go.Pv.Cd
set_option maxRecDepth 100000
set_option maxHeartbeats 8000000
theorem j8t (v e:Nat)(st:q5f):Defs P F.q2z [.ptr v 0,.ptr e 0] .returning st .returning st:=by
 refine H.q2z.defs q5n rfl rfl ?_
 repeat' (simp -dsimp -implicitDefEqProofs [*])
theorem j09 (v e:Nat)(a b c d:PV)(m:Int)(st:q5f)(hne:¬ v=e/\¬ e=v):Defs P F.q2z [.ptr v 0,.ptr e 0] (.panicking q80) ((e,.arr T.apiErrno [.int m])::(v,.arr T.apiValue [a,b,c,d])::st) .returning ((e,.arr T.apiErrno [.int 10])::(v,.arr T.apiValue v0)::st):=by
 refine H.q2z.defs q5n rfl rfl ?_
 repeat' (first 
  | (with_reducible refine DrawLate.intro [] ?_)
  | (simp -dsimp -implicitDefEqProofs [q80, *]))
def j1a (L:List (BitVec 8)):List PV:=match Go.Pv.Cd.decode L with
 | some v=>q6t v
 | none=>v0
def j1b (L:List (BitVec 8)):Int:=match Go.Pv.Cd.decode L with
 | some _=>0
 | none=>10
theorem z83 (L:List (BitVec 8))(hL:L.length<=100000)(st:q5f):Rets P F.q4o [q53 false L] st (.tuple [.agg (j1a L),.int (j1b L)]):=by
 have vs:=j2n 16 (by omega) L hL
 rw [show (16:Int)-((16:Nat):Int)=0 by decide] at vs
 refine H.q4o.view q5n rfl rfl ?_
 repeat' (first 
  | (with_reducible refine Fresh.intro fun b hb=>?_) <;> (try simp -dsimp -implicitDefEqProofs [*] at hb)
  | (simp -dsimp -implicitDefEqProofs [H.q2z.enters, *]))
 rename_i v hv e he
 refine q5k (vs b _ hb) ?_
 clear vs
 intro en s h
 unfold ValP at h
 cases hd:decV 16 L with
 | none=>
  rw [hd] at h
  obtain⟨e1,e2⟩:=h
  subst e1
  subst e2
  have c1:j1a L=v0:=by unfold j1a Go.Pv.Cd.decode; rw [hd]
  have c2:j1b L=10:=by unfold j1b Go.Pv.Cd.decode; rw [hd]
  rw [c1,c2]
  clear hd c1 c2
  repeat' (simp -dsimp -implicitDefEqProofs [q84, *])
  refine Defs.xdef (j09 v e _ _ _ _ 0 st he.1) ?_
  repeat' (simp -dsimp -implicitDefEqProofs [q84, *])
  exact RetView.drop (st':=st) q5o ⟨rfl,rfl⟩
 | some q=>
  obtain⟨w,R⟩:=q
  rw [hd] at h
  obtain⟨e1,e2⟩:=h
  subst e1
  subst e2
  cases R with
  | nil=>
   have c1:j1a L=q6t w:=by unfold j1a Go.Pv.Cd.decode; rw [hd]
   have c2:j1b L=0:=by unfold j1b Go.Pv.Cd.decode; rw [hd]
   rw [c1,c2]
   have hc:=k3z w
   generalize q6t w=W at *
   have hsub:=sub_all hc
   clear hd c1 c2
   repeat' (first 
    | (with_reducible refine Rets.xcall (k4z _ _) ?_)
    | (with_reducible refine Defs.xdef (j8t _ _ _) ?_)
    | (simp -dsimp -implicitDefEqProofs [q84, *]))
   exact RetView.drop (st':=st) q5o ⟨rfl,rfl⟩
  | cons c R=>
   have c1:j1a L=v0:=by unfold j1a Go.Pv.Cd.decode; rw [hd]
   have c2:j1b L=10:=by unfold j1b Go.Pv.Cd.decode; rw [hd]
   rw [c1,c2]
   have hc:=k3z w
   generalize q6t w=W at *
   have hn:¬ (R.length:Int)+1=0:=by omega
   obtain⟨w1,w2,w3,w4,hW⟩:∃ a b c d,W=[a,b,c,d]:=by
    match W,hc with
    | [a,b,c,d],_=>exact⟨_,_,_,_,rfl⟩
   subst hW
   clear hd c1 c2 hc
   repeat' (first 
    | (with_reducible refine Panics.xcall (k40 _ _) ?_)
    | (simp -dsimp -implicitDefEqProofs [q84, *]))
   refine Defs.xdef (PDef.le (by exact StLe.fresh (by exact hb)) (j09 v e _ _ _ _ 0 st he.1)) ?_
   repeat' (simp -dsimp -implicitDefEqProofs [q84, *])
   exact RetView.drop (st':=st) q5o ⟨rfl,rfl⟩
open Go.Pv Go.Pv.Sha
set_option maxRecDepth 100000
set_option maxHeartbeats 4000000
def k9p (D:Nat)(st:q5f)(e:PEnd)(s:q5f):Prop:=∃ d:Nat,d<=D/\e=.ret (.tuple [.int (d:Int),.bool true])/\s=st
theorem j5p (n:Nat)(st:q5f):PCalls P F.q2j [.agg (j3i n)] st (k9p 0 st):=by
 refine H.q2j.view q5n rfl rfl ?_
 by_cases hn:n=0
 ·subst hn
  repeat' (first 
   | (with_reducible refine Fresh.intro fun b hb=>?_) <;> (try simp -dsimp -implicitDefEqProofs [*] at hb)
   | (simp -dsimp -implicitDefEqProofs [*]))
  exact .drop q5o ⟨0,Nat.le_refl _,rfl,rfl⟩
 ·have hn':¬ (n:Int)=0:=by omega
  repeat' (first 
   | (with_reducible refine Fresh.intro fun b hb=>?_) <;> (try simp -dsimp -implicitDefEqProofs [*] at hb)
   | (simp -dsimp -implicitDefEqProofs [*]))
  exact .drop q5o ⟨0,Nat.le_refl _,rfl,rfl⟩
theorem j2o (D:Nat)(l:List Wv)(hl0:0<l.length)(hl:l.length<=100)(hD:D<=10)(st:q5f)(hf:∀ v ∈ l,∀ st,PCalls P F.q2j [.agg v.row] st (k9p D st)):PCalls P F.q2j [.agg (q9x (l.flatMap Wv.row) l.length)] st (k9p (D+1) st):=by
 refine H.q2j.view q5n rfl rfl ?_
 have h0':¬ (l.length:Int)=0:=by omega
 repeat' (first 
  | (with_reducible refine Fresh.intro fun b hb=>?_) <;> (try simp -dsimp -implicitDefEqProofs [*] at hb)
  | (simp -dsimp -implicitDefEqProofs [*]))
 refine q5h (fun y:Nat × Nat=>[(2,.int (y.2:Nat)),(55,.list false (l.flatMap Wv.row) l.length),(56,.int l.length),(57,.int (y.1:Nat))]) (fun _=>st) (fun y=>y.1<=l.length/\y.2<=D) (fun y=>l.length-y.1) (0,0) ⟨by omega,by omega⟩ (by simp) q5o ?_
 rintro⟨i,d⟩ ⟨hi,hd⟩
 simp only at hi hd
 by_cases hil:i<l.length
 ·have hv:=hf l[i] (List.getElem_mem hil)
  have hs:=q8v (enc:=Wv.row) (k:=4) (fun _=>rfl) l i hil
  have hfl:=q6h (enc:=Wv.row) (k:=4) (fun _=>rfl) l
  have hwi:=q5i (n:=i) (by omega)
  generalize l[i]=v at *
  generalize hrows:l.flatMap Wv.row=rows at *
  repeat' (first 
   | (with_reducible refine Fresh.intro fun b hb=>?_) <;> (try simp -dsimp -implicitDefEqProofs [*] at hb)
   | (simp -dsimp -implicitDefEqProofs [*]))
  refine q5k (hv _) ?_
  rintro e s2 ⟨d2,hd2,rfl,rfl⟩
  rw [q5x]
  clear hv
  by_cases hdd:d<d2
  ·repeat' (simp -dsimp -implicitDefEqProofs [*])
   exact Next.intro (i+1,d2) ⟨by simp only; omega,hd2⟩ (by simp only; omega) (by simp) q5o
  ·repeat' (simp -dsimp -implicitDefEqProofs [*])
   exact Next.intro (i+1,d) ⟨by simp only; omega,hd⟩ (by simp only; omega) (by simp) q5o
 ·have e:i=l.length:=by omega
  subst e
  have hwd:=q5i (n:=d) (by omega)
  repeat' (simp -dsimp -implicitDefEqProofs [*])
  exact .same ⟨d+1,by omega,by simp,rfl⟩
open Go.Pv Go.Pv.Sha
set_option maxRecDepth 100000
set_option maxHeartbeats 4000000
theorem k9q (c0 c1 c2 c3:PV)(D:Nat)(hD:D<=16)(st:q5f)(hf:∀ st,PCalls P F.q2j [.agg [c0,c1,c2,c3]] st (k9p D st)):Rets P F.q4s [.agg [c0,c1,c2,c3]] st (.int 0):=by
 refine H.q4s.pure q5n rfl rfl ?_
 repeat' (first 
  | (with_reducible refine Fresh.intro fun b hb=>?_) <;> (try simp -dsimp -implicitDefEqProofs [*] at hb)
  | (simp -dsimp -implicitDefEqProofs [*]))
 refine q5k (hf _) ?_
 rintro e s ⟨d,hd,rfl,rfl⟩
 rw [q5x]
 clear hf
 have h16:¬ (16:Int)<d:=by omega
 repeat' (simp -dsimp -implicitDefEqProofs [*])
theorem Frozen.mono {I I':Imm}{b:Nat}{o:PObj}(h:Frozen I b o)(hle:I.le I'):Frozen I' b o:=by
 obtain⟨r,h1,h2⟩:=h
 exact⟨r,hle _ _ h1,k1a hle h2⟩
theorem Sees.freeze2 {b c:Nat}{o x:PObj}{p q:PV}{st:q5f}(hn:q54 ((c,x)::st) b)(hm:q54 st c)(hf:∀ I,Frozen I b o->Frozen I c x->∀ v,vrep I p v->vrep I q v):Sees p ((b,o)::(c,x)::st) q st:=⟨fun I w v h1 h2=>by
 obtain⟨I1,h3,h4,h5⟩:=h1.freeze hn
 obtain⟨I2,h6,h7,h8⟩:=h4.freeze hm
 exact⟨I2,Imm.le_trans h3 h6,h7,hf I2 (Frozen.mono h5 h6) h8 v (q7a h6 _ _ (q7a h3 _ _ h2))⟩⟩
theorem Frz.wtab {b:Nat}{o:PObj}{c d:PV}(h:Frz b o c d):Frzs b o (wtab c) (wtab d):=
 .cons (.refl _) (.cons (.refl _) (.cons (.refl _) (.cons (.func _ .nil (.cons h .nil)) .nil)))
theorem z0l (st:q5f):PCalls P F.q4b [] st (fun e s=>∃ c,e=.ret (.iptr (wtab (j07 (wtab (j07 (wtab c))))) 0)/\s=st):=by
 refine H.q4b.view q5n rfl rfl ?_
 repeat' (first 
  | (with_reducible refine Fresh.intro fun b hb=>?_) <;> (try simp -dsimp -implicitDefEqProofs [*] at hb)
  | (simp -dsimp -implicitDefEqProofs [*]))
 revert b
 intro w hw
 revert b
 intro p hp hw
 have e1:Frz p (.arr T.q5e (wtab (.ptr w 0))) (.ptr p 0) (.iptr (wtab (.ptr w 0)) 0):=.ptr _ _ 0 rfl
 have e2:Frz w (.arr T.codecwriter [.ptr p 0]) (.ptr w 0) (.iptr [.ptr p 0] 0):=.ptr _ _ 0 rfl
 refine .sees (Sees.freeze2 (q:=.iptr (wtab (j07 (wtab (j07 (wtab (.ptr w 0)))))) 0) hw hp fun I fw fp v h0=>?_) (.same ⟨⟨_,rfl⟩,rfl⟩)
 have h1:=Frz.vrep fp e1 h0
 have h2:=Frz.vrep fw (.iptr 0 (Frz.wtab e2)) h1
 have h3:=Frz.vrep fp (.iptr 0 (Frz.wtab (.iptr 0 (.cons e1 .nil)))) h2
 have h4:=Frz.vrep fw (.iptr 0 (Frz.wtab (.iptr 0 (.cons (.iptr 0 (Frz.wtab e2)) .nil)))) h3
 exact Frz.vrep fp (.iptr 0 (Frz.wtab (.iptr 0 (.cons (.iptr 0 (Frz.wtab (.iptr 0 (.cons e1 .nil)))) .nil)))) h4
theorem z84 (l:List Wv)(hl0:0<l.length)(hl:l.length<=100)(D:Nat)(hD:D<=10)(hok:∀ c,∀ v ∈ l,v.Ok 210000 (wtab (j07 (wtab c))))(hf:∀ v ∈ l,∀ st,PCalls P F.q2j [.agg v.row] st (k9p D st))(st:q5f) :
  Rets P F.q36 [.agg (q9x (l.flatMap Wv.row) l.length)] st (.tuple [q53 false (3#8::(k06 l.length++l.flatMap Wv.B)),.int 0]):=by
 refine H.q36.view q5n rfl rfl ?_
 have hc:=fun st=>k9q (.int 3) (.int 0) q64 (.list false (l.flatMap Wv.row) l.length) (D+1) (by omega) st (fun st=>j2o D l hl0 hl hD st hf)
 repeat' (first 
  | (with_reducible refine Fresh.intro fun b hb=>?_) <;> (try simp -dsimp -implicitDefEqProofs [*] at hb)
  | (with_reducible refine Rets.xcall (hc _) ?_)
  | (simp -dsimp -implicitDefEqProofs [-q5g, *]))
 clear hc
 refine DrawLate.by (Cls ((b,.arr T.apiValue (q9x (l.flatMap Wv.row) l.length))::st) []) (Cls.self _ _) ?_
 repeat' (simp -dsimp -implicitDefEqProofs [-q5g, *])
 refine q5k (z0l _) ?_
 rintro e s2 ⟨c,rfl,rfl⟩
 rw [q5x]
 refine⟨Cls.self _ _, ?_⟩
 have hok':=hok c
 clear hok
 have htab:(wtab (j07 (wtab (j07 (wtab c)))))[3]?=some (.func (.func F.q2p) [] [j07 (wtab (j07 (wtab c)))]):=rfl
 have kok:Hid (∀ v ∈ l,v.Ok 210000 (wtab (j07 (wtab c)))):=⟨hok'⟩
 clear hok'
 generalize wtab (j07 (wtab c))=tab at *
 generalize wtab (j07 tab)=tab3 at *
 repeat' (simp -dsimp -implicitDefEqProofs [-q5g, *])
 have hB:=k5y l fun v hv=>(kok.out v hv).B
 have hn:=q69 (n:=l.length) (by omega)
 refine q5k (z0k 0 (by omega) tab l hl (fun v hv=>by simpa using kok.out v hv) none ((b,.arr T.apiValue (q9x (l.flatMap Wv.row) l.length))::st) trivial (by simp)) ?_
 rintro e s2 ⟨o,ho,hol,rfl,rfl⟩
 rw [q5x]
 simp only [q8x,List.nil_append] at hol
 refine⟨q7p ho (Cls.self _ _), ?_⟩
 have kl:Hid (q50 o=3#8::(k06 l.length++l.flatMap Wv.B)):=⟨hol⟩
 clear hol kok htab hf
 repeat' (simp -dsimp -implicitDefEqProofs [-q5g, *])
 exact RetView.accP2 (row:=q5p) rfl ho (.drop q5o ⟨by rw [kl.out],rfl⟩)
end Go.Proofs.YtmlmoaimjifpgaaGreat
