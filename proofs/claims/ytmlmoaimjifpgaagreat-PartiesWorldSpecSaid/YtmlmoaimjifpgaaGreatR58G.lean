/- The reference's reader: values. -/
import Derived.Test.YtmlmoaimjifpgaaGreatK58A
import Derived.Test.YtmlmoaimjifpgaaGreatC58J
namespace Go.Proofs.YtmlmoaimjifpgaaGreat
open Go.Pv Go.Pv.Cd
set_option maxRecDepth 100000
set_option maxHeartbeats 16000000
def z4f:Vl->Wv
 | .int n=>⟨1,.int n,q6y,.nil,(Vl.int n).enc⟩
 | .text s=>⟨2,.int 0,.str (k6b s),.nil,(Vl.text s).enc⟩
 | .list l=>⟨3,.int 0,q6y,.list false (q8t l) l.length,(Vl.list l).enc⟩
theorem k55 (v:Vl):(z4f v).row=q6n v:=by cases v <;> rfl
abbrev k56:List Wv->List PV:=fun l=>l.flatMap Wv.row
theorem j6p:∀ l:List Wv,(k56 l).length=l.length*4:=q53 (enc:=Wv.row) (k:=4) (fun _=>rfl)
theorem z64 (l m:List Wv):k56 (l++m)=k56 l++k56 m:=List.flatMap_append
theorem k57:∀ l:List Vl,k56 (l.map z4f)=q8t l
 | []=>rfl
 | v::l=>by
  show (z4f v).row++k56 (l.map z4f)=_
  rw [k55,k57 l,q8t]
def ValR (d:Nat)(L:List (BitVec 8))(a b:Nat)(st:q5c)(e:PEnd)(s:q5c):Prop:=match decV d (L.drop a) with
 | some (v,r)=>∃ a',a'<=L.length/\L.drop a'=r/\e=.ret (.agg (q6n v))/\s=(b,rdR L a' false)::st
 | none=>∃ a',a'<=L.length/\(∃ q:Wv,e=.ret (.agg q.row))/\s=(b,rdR L a' true)::st
theorem ValR.no {d:Nat}{L:List (BitVec 8)}{a a' b:Nat}{st:q5c}(h:decV d (L.drop a)=none)(ha:a'<=L.length)(q:Wv):ValR d L a b st (.ret (.agg q.row)) ((b,rdR L a' true)::st):=by
 unfold ValR
 rw [h]
 exact⟨a',ha,⟨q,rfl⟩,rfl⟩
theorem ValR.yes {d:Nat}{L r:List (BitVec 8)}{a a' b:Nat}{v:Vl}{st:q5c}(h:decV d (L.drop a)=some (v,r))(ha:a'<=L.length)(hr:L.drop a'=r):ValR d L a b st (.ret (.agg (q6n v))) ((b,rdR L a' false)::st):=by
 unfold ValR
 rw [h]
 exact⟨a',ha,hr,rfl,rfl⟩
def wv0:Wv:=⟨0,.int 0,q6y,.nil,[]⟩
theorem k3t (L:List (BitVec 8))(a:Nat)(c:BitVec 8)(h:L[a]?=some c)(hL:L.length<=100000)(b w:Nat)(x:PObj)(st:q5c)(hb:q50 st b)(hne:¬ b=w/\¬ w=b):Does P F.q0u [.ptr b 0] ((w,x)::(b,rdR L a false)::st) (bv c) ((b,rdR L (a+1) false)::(w,x)::st):=
 (z62 L a c h hL b ((w,x)::st) ⟨⟨hne.2,hne.1⟩,hb⟩).le (StLe.swap hne.1)
theorem j6q (L:List (BitVec 8))(hL:L.length<=100000)(b w:Nat)(x:PObj)(st:q5c)(hb:q50 st b)(hne:¬ b=w/\¬ w=b):Does P F.q0u [.ptr b 0] ((w,x)::(b,rdR L L.length false)::st) (bv 0#8) ((b,rdR L L.length true)::(w,x)::st):=
 (z4e L hL b ((w,x)::st) ⟨⟨hne.2,hne.1⟩,hb⟩).le (StLe.swap hne.1)
theorem z94:∀ (d:Nat),d<=16->∀ (L:List (BitVec 8)),L.length<=100000->∀ (a:Nat),a<=L.length->∀ (b:Nat) (st:q5c),q50 st b->PCalls P F.q0q [.ptr b 0,.int (16-d:Int)] ((b,rdR L a false)::st) (ValR d L a b st):=by
 intro d
 induction d using Nat.strongRecOn with
 | _ d ih=>
  intro hd L hL a ha b st hb
  by_cases hal:a<L.length
  case neg=>
   obtain rfl:a=L.length:=by omega
   have e:=Hid.mk (ValR.no (b:=b) (st:=st) (show decV d (L.drop L.length)=none by simp [decV]) ha wv0)
   have hbv:bv 0#8=.val (.int .u8 0):=rfl
   refine H.q0q.view q5l rfl rfl ?_
   repeat' (first 
    | (with_reducible refine Fresh.intro fun b hb=>?_) <;> (try simp -dsimp -implicitDefEqProofs [*] at hb)
    | (simp -dsimp -implicitDefEqProofs [*]))
   revert b; intro w hw
   refine Does.xcall (j6q L hL b w _ st hb hw.1) ?_
   repeat' (simp -dsimp -implicitDefEqProofs [*])
   exact RetView.drop (st':=(b,rdR L L.length true)::st) q5m e.out
  obtain⟨k,hk⟩:∃ k,L[a]?=some k:=⟨_,List.getElem?_eq_getElem hal⟩
  have hdr:L.drop a=k::L.drop (a+1):=by
   rw [List.drop_eq_getElem_cons hal,q6b hk]
  have hbv:bv k=.val (.int .u8 (k.toNat:Nat)):=rfl
  have hkl:=k.isLt
  have tn:=fun x hx=>z63 L hL (a+1) hal b ((x:Nat × PObj)::st) hx
  by_cases h1:k.toNat=1
  ·have hk1:Hid (k=1#8):=⟨BitVec.eq_of_toNat_eq h1⟩
   refine H.q0q.view q5l rfl rfl ?_
   repeat' (first 
    | (with_reducible refine Fresh.intro fun b hb=>?_) <;> (try simp -dsimp -implicitDefEqProofs [*] at hb)
    | (simp -dsimp -implicitDefEqProofs [*]))
   revert b; intro w hw
   refine Does.xcall (k3t L a k hk hL b w _ st hb hw.1) ?_
   repeat' (simp -dsimp -implicitDefEqProofs [*])
   refine q5h (tn _ ⟨⟨hw.1.2,hw.1.1⟩,hb⟩) ?_
   clear tn
   intro e s h
   unfold NumR at h
   cases hn:k0u 0 (L.drop (a+1)) with
   | none=>
    rw [hn] at h
    obtain⟨a',ha',e1,e2⟩:=h
    subst e1
    subst e2
    have e:=Hid.mk (ValR.no (d:=d) (L:=L) (a:=a) (a':=a') (b:=b) (st:=st) (by rw [hdr,hk1.out,decV.eq_def]; simp [hn]) ha' ⟨1,.int 0,q6y,.nil,[]⟩)
    clear hn hdr
    have hz:IntKind.i64.wrap (IntKind.u64.wrap 0)=0:=by decide
    repeat' (simp -dsimp -implicitDefEqProofs [*])
    exact RetView.drop (st':=(b,rdR L a' true)::st) q5m e.out
   | some q=>
    obtain⟨u,r⟩:=q
    rw [hn] at h
    obtain⟨a',ha',hr,e1,e2⟩:=h
    subst e1
    subst e2
    have hi:=q70 0 _ u r hn
    have hu:u<18446744073709551616:=by have:=hi.2.2 (by omega); omega
    have e:=Hid.mk (ValR.yes (d:=d) (L:=L) (a:=a) (a':=a') (b:=b) (v:=.int (zag u)) (r:=r) (st:=st) (by rw [hdr,hk1.out,decV.eq_def]; simp [hn]) ha' hr)
    clear hn hi hr hdr
    have e1:(u:Int).tmod 2=((u % 2:Nat):Int):=by rw [Int.tmod_eq_emod_of_nonneg (by omega)]; omega
    have w2:IntKind.u64.wrap ((u % 2:Nat):Int)=((u % 2:Nat):Int):=q7g (by omega) (by omega)
    have w3:IntKind.u64.wrap ((u:Int) / 2)=(u:Int) / 2:=q7g (by omega) (by omega)
    by_cases hu2:u % 2=1
    ·have hz:IntKind.i64.wrap (IntKind.i64.wrap (-IntKind.i64.wrap ((u:Int) / 2))-1)=zag u:=by
      rw [q5i (n:=(u:Int) / 2) (by omega) (by omega),q5i (n:=-((u:Int) / 2)) (by omega) (by omega),q5i (by omega) (by omega)]
      unfold zag
      rw [if_pos hu2]
      omega
     repeat' (simp -dsimp -implicitDefEqProofs [*])
     exact RetView.drop (st':=(b,rdR L a' false)::st) q5m e.out
    ·have hz:IntKind.i64.wrap ((u:Int) / 2)=zag u:=by
      rw [q5i (by omega) (by omega)]
      unfold zag
      rw [if_neg hu2]
      omega
     repeat' (first 
      | (with_reducible refine And.intro (fun h=>?_) (fun h=>?_)) <;> (try (exfalso; omega))
      | (simp -dsimp -implicitDefEqProofs [*]))
     exact RetView.drop (st':=(b,rdR L a' false)::st) q5m e.out
  by_cases h2:k.toNat=2
  ·have hk2:Hid (k=2#8):=⟨BitVec.eq_of_toNat_eq h2⟩
   refine H.q0q.view q5l rfl rfl ?_
   repeat' (first 
    | (with_reducible refine Fresh.intro fun b hb=>?_) <;> (try simp -dsimp -implicitDefEqProofs [*] at hb)
    | (simp -dsimp -implicitDefEqProofs [*]))
   revert b; intro w hw
   refine Does.xcall (k3t L a k hk hL b w _ st hb hw.1) ?_
   repeat' (simp -dsimp -implicitDefEqProofs [*])
   refine q5h (tn _ ⟨⟨hw.1.2,hw.1.1⟩,hb⟩) ?_
   clear tn
   intro e s h
   unfold NumR at h
   cases hn:k0u 0 (L.drop (a+1)) with
   | none=>
    rw [hn] at h
    obtain⟨a',ha',e1,e2⟩:=h
    subst e1
    subst e2
    have e:=Hid.mk (ValR.no (d:=d) (L:=L) (a:=a) (a':=a') (b:=b) (st:=st) (by rw [hdr,hk2.out,decV.eq_def]; simp [hn]) ha' wv0)
    clear hn hdr
    repeat' (simp -dsimp -implicitDefEqProofs [*])
    exact RetView.drop (st':=(b,rdR L a' true)::st) q5m e.out
   | some q=>
    obtain⟨u,r⟩:=q
    rw [hn] at h
    obtain⟨a',ha',hr,e1,e2⟩:=h
    subst e1
    subst e2
    have hi:=q70 0 _ u r hn
    have hu:u<18446744073709551616:=by have:=hi.2.2 (by omega); omega
    have hrl:r.length=L.length-a':=by rw [<-hr,List.length_drop]
    have w1:IntKind.u64.wrap ((L.length:Int)-a')=(L.length:Int)-a':=q7g (by omega) (by omega)
    have w0:IntKind.i64.wrap ((L.length:Int)-a')=(L.length:Int)-a':=q5i (by omega) (by omega)
    by_cases hl:u<=r.length
    case neg=>
     have e:=Hid.mk (ValR.no (d:=d) (L:=L) (a:=a) (a':=a') (b:=b) (st:=st) (by rw [hdr,hk2.out,decV.eq_def]; simp [hn,hl]) ha' wv0)
     clear hn hi hr hdr
     repeat' (first 
      | (with_reducible refine And.intro (fun h=>?_) (fun h=>?_)) <;> (try (exfalso; omega))
      | (simp -dsimp -implicitDefEqProofs [*]))
     exact RetView.drop (st':=(b,rdR L a' true)::st) q5m e.out
    have e:=Hid.mk (ValR.yes (d:=d) (L:=L) (a:=a) (a':=a'+u) (b:=b) (v:=.text (r.take u)) (r:=r.drop u) (st:=st) (by rw [hdr,hk2.out,decV.eq_def]; simp [hn,hl]) (by omega) (by rw [<-hr,List.drop_drop]))
    clear hn hi hdr
    have hbs:q8n (List.drop a' (List.take (a'+u) (q5k L)))=some ((r.take u).map UInt8.ofBitVec):=by
     rw [k2y,k2z,List.drop_take,hr,Nat.add_sub_cancel_left]
     exact q89 _
    have w2:IntKind.i64.wrap (u:Int)=u:=q5i (by omega) (by omega)
    have w3:IntKind.i64.wrap ((a':Int)+u)=(a':Int)+u:=q5i (by omega) (by omega)
    have w4:IntKind.i64.wrap (a':Int)=(a':Int):=q5i (by omega) (by omega)
    have t1:((a':Int)+u).toNat=a'+u:=by omega
    have t2:min (a'+u) L.length=a'+u:=by omega
    clear hr
    repeat' (first 
     | (with_reducible refine And.intro (fun h=>?_) (fun h=>?_)) <;> (try (exfalso; omega))
     | ((with_reducible refine q5r ?_ fun hk=>?_); omega)
     | (simp -dsimp -implicitDefEqProofs [*]))
    exact RetView.drop (st':=(b,rdR L (a'+u) false)::st) q5m (by have h:=e.out; simp only [q6n,k6b,List.map_take] at h; exact h)
  by_cases h3:k.toNat=3
  ·have hk3:Hid (k=3#8):=⟨BitVec.eq_of_toNat_eq h3⟩
   have hnd:∀ a' u r,k0u 0 (L.drop (a+1))=some (u,r)->(u<=r.length->d=0)->a'<=L.length->ValR d L a b st (.ret (.agg wv0.row)) ((b,rdR L a' true)::st):=fun a' u r hn h0 ha'=>ValR.no (by
    rw [hdr,hk3.out,decV.eq_def]
    cases d with
    | zero=>simp
    | succ d=>
     have hl:¬ u<=r.length:=fun h=>by have:=h0 h; omega
     simp [hn,hl]) ha' wv0
   refine H.q0q.view q5l rfl rfl ?_
   repeat' (first 
    | (with_reducible refine Fresh.intro fun b hb=>?_) <;> (try simp -dsimp -implicitDefEqProofs [*] at hb)
    | (simp -dsimp -implicitDefEqProofs [*]))
   revert b; intro w hw
   refine Does.xcall (k3t L a k hk hL b w _ st hb hw.1) ?_
   repeat' (simp -dsimp -implicitDefEqProofs [*])
   refine q5h (tn _ ⟨⟨hw.1.2,hw.1.1⟩,hb⟩) ?_
   clear tn
   intro e s h
   unfold NumR at h
   cases hn:k0u 0 (L.drop (a+1)) with
   | none=>
    rw [hn] at h
    obtain⟨a',ha',e1,e2⟩:=h
    subst e1
    subst e2
    have e:=Hid.mk (ValR.no (d:=d) (L:=L) (a:=a) (a':=a') (b:=b) (st:=st) (by
     rw [hdr,hk3.out,decV.eq_def]
     cases d <;> simp [hn]) ha' wv0)
    clear hn hdr hnd ih
    repeat' (simp -dsimp -implicitDefEqProofs [*])
    exact RetView.drop (st':=(b,rdR L a' true)::st) q5m e.out
   | some q=>
    obtain⟨n,r⟩:=q
    rw [hn] at h
    obtain⟨a',ha',hr,e1,e2⟩:=h
    subst e1
    subst e2
    have hi:=q70 0 _ n r hn
    have hu:n<18446744073709551616:=by have:=hi.2.2 (by omega); omega
    have hrl:r.length=L.length-a':=by rw [<-hr,List.length_drop]
    have w1:IntKind.u64.wrap ((L.length:Int)-a')=(L.length:Int)-a':=q7g (by omega) (by omega)
    have w0:IntKind.i64.wrap ((L.length:Int)-a')=(L.length:Int)-a':=q5i (by omega) (by omega)
    by_cases hl:n<=r.length
    case neg=>
     have e:=Hid.mk (hnd a' n r hn (fun h=>absurd h hl) ha')
     clear hn hi hr hdr hnd ih
     repeat' (first 
      | (with_reducible refine And.intro (fun h=>?_) (fun h=>?_)) <;> (try (exfalso; omega))
      | (simp -dsimp -implicitDefEqProofs [*]))
     exact RetView.drop (st':=(b,rdR L a' true)::st) q5m e.out
    cases d with
    | zero=>
     have e:=Hid.mk (hnd a' n r hn (fun _=>rfl) ha')
     clear hn hi hr hdr hnd ih
     repeat' (first 
      | (with_reducible refine And.intro (fun h=>?_) (fun h=>?_)) <;> (try (exfalso; omega))
      | (simp -dsimp -implicitDefEqProofs [*]))
     exact RetView.drop (st':=(b,rdR L a' true)::st) q5m e.out
    | succ d=>
     have hdl:¬ (16:Int)-(d+1)=16:=by omega
     have hw16:IntKind.i64.wrap ((16:Int)-(d+1)+1)=16-d:=by rw [q5i (by omega) (by omega)]; omega
     have eY:=Hid.mk fun l r' a2 ha2 hr2 (h:k1t (decV d) n r=some (l,r'))=>ValR.yes (d:=d+1) (L:=L) (a:=a) (a':=a2) (b:=b) (v:=.list l) (r:=r') (st:=st) (by rw [hdr,hk3.out,decV.eq_def]; simp [hn,hl,h]) ha2 hr2
     have eN:=Hid.mk fun a2 ha2 q (h:k1t (decV d) n r=none)=>ValR.no (d:=d+1) (L:=L) (a:=a) (a':=a2) (b:=b) (st:=st) (by rw [hdr,hk3.out,decV.eq_def]; simp [hn,hl,h]) ha2 q
     replace ih:=Hid.mk (ih d (by omega) (by omega) L hL)
     have hL':Hid (L.length<=100000):=⟨hL⟩
     clear hn hi hk3 hbv hkl h1 h2 h3 hdr hnd
     repeat' (first 
      | (with_reducible refine Fresh.intro fun b hb=>?_) <;> (try simp -dsimp -implicitDefEqProofs [*] at hb)
      | (with_reducible refine And.intro (fun h=>?_) (fun h=>?_)) <;> (try (exfalso; omega))
      | (simp -dsimp -implicitDefEqProofs [*]))
     revert b; intro v hv
     refine q5e (fun y:Nat × Option (Acc Wv) × Nat × Bool=>[(0,.ptr b 0),(1,.int (16-(d+1):Int)),(4,.ptr w 0),(7,.val (.int .u64 (n:Nat))),(8,.ptr v 0),(9,.val (.int .u64 (y.1:Nat)))])
      (fun y=>(b,rdR L y.2.2.1 y.2.2.2)::q6c T.apiValue ((v,.arr T.apiValue [.int 3,.int 0,q6y,q7n y.2.1])::(w,.arr T.apiValue v0)::st) y.2.1)
      (fun y=>y.1<=n/\accOk k56 4 ((v,.arr T.apiValue [.int 3,.int 0,q6y,q7n y.2.1])::(w,.arr T.apiValue v0)::st) y.2.1/\q50 (q6c T.apiValue ((v,.arr T.apiValue [.int 3,.int 0,q6y,q7n y.2.1])::(w,.arr T.apiValue v0)::st) y.2.1) b/\y.2.2.1<=L.length/\Hid ((q5u y.2.1).length=y.1/\(y.2.2.2=true->k1t (decV d) n r=none)/\(y.2.2.2=false->∃ vs:List Vl,q5u y.2.1=vs.map z4f/\k1t (decV d) n r=match k1t (decV d) (n-y.1) (L.drop y.2.2.1) with | some (l,r')=>some (vs++l,r') | none=>none)))
      (fun y=>n-y.1) (0,none,a',false)
      ⟨Nat.zero_le _,trivial,⟨⟨hv.1.2,hv.1.1⟩,⟨hw.1.2,hw.1.1⟩,hb⟩,ha',Hid.mk ⟨rfl,(fun h=>by cases h),fun _=>⟨[],rfl,by
       show _=match k1t (decV d) (n-0) (L.drop a') with | some (l,r')=>some ([]++l,r') | none=>none
       rw [hr,Nat.sub_zero]
       cases k1t (decV d) n r with
       | none=>rfl
       | some q=>rfl⟩⟩⟩ (by simp) ?_ ?_
     ·exact StLe.swap hv.1.1
     clear hr hrl
     rintro⟨i,o,p,bad⟩ ⟨hi,ho,hbn,hp,hI⟩
     replace hi:i<=n:=hi
     replace ho:accOk k56 4 ((v,.arr T.apiValue [.int 3,.int 0,q6y,q7n o])::(w,.arr T.apiValue v0)::st) o:=ho
     replace hbn:q50 (q6c T.apiValue ((v,.arr T.apiValue [.int 3,.int 0,q6y,q7n o])::(w,.arr T.apiValue v0)::st) o) b:=hbn
     replace hp:p<=L.length:=hp
     replace hI:Hid ((q5u o).length=i/\(bad=true->k1t (decV d) n r=none)/\(bad=false->∃ vs:List Vl,q5u o=vs.map z4f/\k1t (decV d) n r=match k1t (decV d) (n-i) (L.drop p) with | some (l,r')=>some (vs++l,r') | none=>none)):=hI
     simp only
     have hg:=k1v (T:=T.apiValue) ho (b:=v) (x:=.arr T.apiValue [.int 3,.int 0,q6y,q7n o]) (by simp)
     have hfin:(bad=false->¬ i<n)->Hid (ValR (d+1) L a b st (.ret (.agg [.int 3,.int 0,q6y,.list false (k56 (q5u o)) (q5u o).length])) ((b,rdR L p bad)::st)):=fun h0=>⟨by
      cases hbad:bad with
      | true=>exact eN.out p hp ⟨3,.int 0,q6y,.list false (k56 (q5u o)) (q5u o).length,[]⟩ (hI.out.2.1 hbad)
      | false=>
       obtain⟨vs,h1,h2⟩:=hI.out.2.2 hbad
       have e0:n-i=0:=by have:=h0 hbad; omega
       rw [e0] at h2
       have:=eY.out vs (L.drop p) p hp rfl (by rw [h2]; simp [k1t])
       rw [h1,k57,List.length_map]
       exact this⟩
     cases hbad:bad with
     | true=>
      rw [hbad] at hfin
      have e:=hfin (fun h=>nomatch h)
      clear hfin hI eY eN ih hg
      by_cases hin:i<n
      ·cases o with
       | none=>
        simp only [k1b,q8p,q78] at ho hbn e ⊢
        repeat' (simp -dsimp -implicitDefEqProofs [*])
        refine RetView.sees (SeesV.le (q:=.agg [.int 3,.int 0,q6y,.list false [] 0]) (PLeV.aggs ⟨.refl _,.refl _,.refl _,.nil1,trivial⟩)) ?_
        exact RetView.drop (st':=(b,rdR L p true)::st) q5m e.out
       | some a=>
        have hfr:=Frz.acc (T:=T.apiValue) ho.1
        obtain⟨A,ab,cap,C⟩:=a
        simp only [q65,q5y,q9x,q7e] at ho hbn e hfr ⊢
        obtain⟨ha,hn⟩:=ho
        replace hfr:=Hid.mk hfr
        replace ha:=Hid.mk ha
        simp only [q50] at hn hbn
        repeat' (simp -dsimp -implicitDefEqProofs [*])
        refine RetView.sees (st':=(ab,.arr T.apiValue C)::(b,rdR L p true)::st) (.drop (StLe.trans (StLe.swap hbn.1.1) q5m)) ?_
        exact RetView.freeze (.agg [.int 3,.int 0,q6y,.list false (k56 A) A.length]) (by simp [*]) (.agg (.cons (.refl _) (.cons (.refl _) (.cons (.refl _) (.cons hfr.out .nil))))) (.same e.out)
      ·cases o with
       | none=>
        simp only [k1b,q8p,q78] at ho hbn e ⊢
        repeat' (simp -dsimp -implicitDefEqProofs [*])
        refine RetView.sees (SeesV.le (q:=.agg [.int 3,.int 0,q6y,.list false [] 0]) (PLeV.aggs ⟨.refl _,.refl _,.refl _,.nil1,trivial⟩)) ?_
        exact RetView.drop (st':=(b,rdR L p true)::st) q5m e.out
       | some a=>
        have hfr:=Frz.acc (T:=T.apiValue) ho.1
        obtain⟨A,ab,cap,C⟩:=a
        simp only [q65,q5y,q9x,q7e] at ho hbn e hfr ⊢
        obtain⟨ha,hn⟩:=ho
        replace hfr:=Hid.mk hfr
        replace ha:=Hid.mk ha
        simp only [q50] at hn hbn
        repeat' (simp -dsimp -implicitDefEqProofs [*])
        refine RetView.sees (st':=(ab,.arr T.apiValue C)::(b,rdR L p true)::st) (.drop (StLe.trans (StLe.swap hbn.1.1) q5m)) ?_
        exact RetView.freeze (.agg [.int 3,.int 0,q6y,.list false (k56 A) A.length]) (by simp [*]) (.agg (.cons (.refl _) (.cons (.refl _) (.cons (.refl _) (.cons hfr.out .nil))))) (.same e.out)
     | false=>
      rw [hbad] at hfin
      by_cases hin:i<n
      case neg=>
       have e:=hfin (fun _=>hin)
       clear hfin hI eY eN ih hg
       cases o with
       | none=>
        simp only [k1b,q8p,q78] at ho hbn e ⊢
        repeat' (simp -dsimp -implicitDefEqProofs [*])
        refine RetView.sees (SeesV.le (q:=.agg [.int 3,.int 0,q6y,.list false [] 0]) (PLeV.aggs ⟨.refl _,.refl _,.refl _,.nil1,trivial⟩)) ?_
        exact RetView.drop (st':=(b,rdR L p false)::st) q5m e.out
       | some a=>
        have hfr:=Frz.acc (T:=T.apiValue) ho.1
        obtain⟨A,ab,cap,C⟩:=a
        simp only [q65,q5y,q9x,q7e] at ho hbn e hfr ⊢
        obtain⟨ha,hn⟩:=ho
        replace hfr:=Hid.mk hfr
        replace ha:=Hid.mk ha
        simp only [q50] at hn hbn
        repeat' (simp -dsimp -implicitDefEqProofs [*])
        refine RetView.sees (st':=(ab,.arr T.apiValue C)::(b,rdR L p false)::st) (.drop (StLe.trans (StLe.swap hbn.1.1) q5m)) ?_
        exact RetView.freeze (.agg [.int 3,.int 0,q6y,.list false (k56 A) A.length]) (by simp [*]) (.agg (.cons (.refl _) (.cons (.refl _) (.cons (.refl _) (.cons hfr.out .nil))))) (.same e.out)
      clear hfin
      have hwi:IntKind.u64.wrap ((i:Int)+1)=(i:Int)+1:=q7g (by omega) (by omega)
      have hwo:=j1i ho
      obtain⟨m,hm⟩:∃ m,n-i=m+1:=⟨n-i-1,by omega⟩
      repeat' (simp -dsimp -implicitDefEqProofs [-q5d, *])
      refine DrawLate.intro (b::accB o) ?_
      repeat' (simp -dsimp -implicitDefEqProofs [-q5d, *])
      refine q5h (ih.out p hp b _ hbn) ?_
      intro e s hV
      have H0:∃ (q:Wv) (p2:Nat) (bad2:Bool),e=.ret (.agg q.row)/\s=(b,rdR L p2 bad2)::q6c T.apiValue ((v,.arr T.apiValue [.int 3,.int 0,q6y,q7n o])::(w,.arr T.apiValue v0)::st) o/\p2<=L.length/\Hid ((bad2=true->k1t (decV d) n r=none)/\(bad2=false->∃ vs:List Vl,q5u o++[q]=vs.map z4f/\k1t (decV d) n r=match k1t (decV d) (n-(i+1)) (L.drop p2) with | some (l,r')=>some (vs++l,r') | none=>none)):=by
       obtain⟨vs,h1,h2⟩:=hI.out.2.2 hbad
       unfold ValR at hV
       cases hv2:decV d (L.drop p) with
       | none=>
        rw [hv2] at hV
        obtain⟨p2,hp2,⟨q,e1⟩,e2⟩:=hV
        refine⟨q,p2,true,e1,e2,hp2,Hid.mk ⟨fun _=>?_,(fun h=>by cases h)⟩⟩
        rw [h2,hm]
        simp [k1t,hv2]
       | some t=>
        obtain⟨v2,R2⟩:=t
        rw [hv2] at hV
        obtain⟨p2,hp2,hr2,e1,e2⟩:=hV
        refine⟨z4f v2,p2,false,by rw [e1,k55],e2,hp2,Hid.mk ⟨(fun h=>by cases h),fun _=>⟨vs++[v2],by rw [h1]; simp, ?_⟩⟩⟩
        rw [h2,hm,show n-(i+1)=m by omega,hr2]
        simp only [k1t,hv2]
        cases k1t (decV d) m R2 with
        | none=>rfl
        | some q=>simp
      obtain⟨q,p2,bad2,e1,e2,hp2,hX⟩:=H0
      subst e1
      subst e2
      have hol:Hid ((q5u o).length=i):=⟨hI.out.1⟩
      clear eY eN ih hI hV hm hbad
      repeat' (simp -dsimp -implicitDefEqProofs [-q5d, *])
      refine xappend_box j6p z64 o ho hbn [q] (by simp [k56]) rfl (by omega) (by rw [hol.out]; omega) fun o' ho' hl'=>?_
      refine⟨j5y ho', ?_⟩
      cases o' with
      | none=>exact absurd (congrArg List.length hl') (by simp)
      | some a=>
       have hn:=ho'.2
       obtain⟨A,ab,cap,C⟩:=a
       simp only [q65,q5y,q7e,q50] at hn hl' ⊢
       have hok:=Hid.mk ho'.1
       have hl2:Hid (A=q5u o++[q]):=⟨hl'⟩
       clear hl' ho' ho hbn hg
       repeat' (simp -dsimp -implicitDefEqProofs [*])
       refine Next.intro (i+1,some ⟨A,ab,cap,C⟩,p2,bad2) ⟨by simp only; omega,⟨hok.out, ?_⟩, ?_,hp2,Hid.mk ⟨?_,hX.out.1, ?_⟩⟩ (by simp only; omega) (by simp) ?_
       ·exact hn.2
       ·exact⟨⟨hn.1.2,hn.1.1⟩,⟨hv.1.2,hv.1.1⟩,⟨hw.1.2,hw.1.1⟩,hb⟩
       ·show A.length=i+1
        rw [hl2.out,List.length_append,hol.out]
        rfl
       ·show bad2=false->∃ vs:List Vl,A=vs.map z4f/\_
        rw [hl2.out]
        exact hX.out.2
       ·exact StLe.swap hn.1.1
  have e:=Hid.mk fun a' h=>ValR.no (d:=d) (L:=L) (a:=a) (a':=a') (b:=b) (st:=st) (by
   have n1:¬ k=1#8:=fun e=>h1 (by rw [e]; rfl)
   have n2:¬ k=2#8:=fun e=>h2 (by rw [e]; rfl)
   have n3:¬ k=3#8:=fun e=>h3 (by rw [e]; rfl)
   rw [hdr,decV.eq_def]
   simp [n1,n2,n3]) h wv0
  clear tn
  refine H.q0q.view q5l rfl rfl ?_
  repeat' (first 
   | (with_reducible refine Fresh.intro fun b hb=>?_) <;> (try simp -dsimp -implicitDefEqProofs [*] at hb)
   | (simp -dsimp -implicitDefEqProofs [*]))
  revert b; intro w hw
  refine Does.xcall (k3t L a k hk hL b w _ st hb hw.1) ?_
  repeat' (first 
   | (with_reducible refine And.intro (fun h=>?_) (fun h=>?_)) <;> (try (exfalso; omega))
   | (simp -dsimp -implicitDefEqProofs [*]))
  exact RetView.drop (st':=(b,rdR L (a+1) true)::st) q5m (e.out _ hal)
end Go.Proofs.YtmlmoaimjifpgaaGreat
