/- The reference's reader: values. -/
import Derived.Test.YtmlmoaimjifpgaaGreatW58C
import Derived.Test.YtmlmoaimjifpgaaGreatD58D
namespace Go.Proofs.YtmlmoaimjifpgaaGreat
open Go.Pv Go.Pv.Cd
set_option maxRecDepth 100000
set_option maxHeartbeats 16000000
def z3w:Vl->Wv
 | .int n=>⟨1,.int n,q64,.nil,(Vl.int n).enc⟩
 | .text s=>⟨2,.int 0,.str (k60 s),.nil,(Vl.text s).enc⟩
 | .list l=>⟨3,.int 0,q64,.list false (q81 l) l.length,(Vl.list l).enc⟩
theorem k52 (v:Vl):(z3w v).row=q6t v:=by cases v <;> rfl
abbrev k53:List Wv->List PV:=fun l=>l.flatMap Wv.row
theorem j5v:∀ l:List Wv,(k53 l).length=l.length*4:=q6h (enc:=Wv.row) (k:=4) (fun _=>rfl)
theorem z6p (l m:List Wv):k53 (l++m)=k53 l++k53 m:=List.flatMap_append
theorem k54:∀ l:List Vl,k53 (l.map z3w)=q81 l
 | []=>rfl
 | v::l=>by
  show (z3w v).row++k53 (l.map z3w)=_
  rw [k52,k54 l,q81]
def ValR (d:Nat)(L:List (BitVec 8))(a b:Nat)(st:q5f)(e:PEnd)(s:q5f):Prop:=match decV d (L.drop a) with
 | some (v,r)=>∃ a',a'<=L.length/\L.drop a'=r/\e=.ret (.agg (q6t v))/\s=(b,rdR L a' false)::st
 | none=>∃ a',a'<=L.length/\(∃ q:Wv,e=.ret (.agg q.row))/\s=(b,rdR L a' true)::st
theorem ValR.no {d:Nat}{L:List (BitVec 8)}{a a' b:Nat}{st:q5f}(h:decV d (L.drop a)=none)(ha:a'<=L.length)(q:Wv):ValR d L a b st (.ret (.agg q.row)) ((b,rdR L a' true)::st):=by
 unfold ValR
 rw [h]
 exact⟨a',ha,⟨q,rfl⟩,rfl⟩
theorem ValR.yes {d:Nat}{L r:List (BitVec 8)}{a a' b:Nat}{v:Vl}{st:q5f}(h:decV d (L.drop a)=some (v,r))(ha:a'<=L.length)(hr:L.drop a'=r):ValR d L a b st (.ret (.agg (q6t v))) ((b,rdR L a' false)::st):=by
 unfold ValR
 rw [h]
 exact⟨a',ha,hr,rfl,rfl⟩
def wv0:Wv:=⟨0,.int 0,q64,.nil,[]⟩
theorem k30 (L:List (BitVec 8))(a:Nat)(c:BitVec 8)(h:L[a]?=some c)(hL:L.length<=100000)(b w:Nat)(x:PObj)(st:q5f)(hb:q54 st b)(hne:¬ b=w/\¬ w=b):Does P F.q0v [.ptr b 0] ((w,x)::(b,rdR L a false)::st) (bv c) ((b,rdR L (a+1) false)::(w,x)::st):=
 (z6n L a c h hL b ((w,x)::st) ⟨⟨hne.2,hne.1⟩,hb⟩).le (StLe.swap hne.1)
theorem j5w (L:List (BitVec 8))(hL:L.length<=100000)(b w:Nat)(x:PObj)(st:q5f)(hb:q54 st b)(hne:¬ b=w/\¬ w=b):Does P F.q0v [.ptr b 0] ((w,x)::(b,rdR L L.length false)::st) (bv 0#8) ((b,rdR L L.length true)::(w,x)::st):=
 (z3v L hL b ((w,x)::st) ⟨⟨hne.2,hne.1⟩,hb⟩).le (StLe.swap hne.1)
theorem z9d:∀ (d:Nat),d<=16->∀ (L:List (BitVec 8)),L.length<=100000->∀ (a:Nat),a<=L.length->∀ (b:Nat) (st:q5f),q54 st b->PCalls P F.q0r [.ptr b 0,.int (16-d:Int)] ((b,rdR L a false)::st) (ValR d L a b st):=by
 intro d
 induction d using Nat.strongRecOn with
 | _ d ih=>
  intro hd L hL a ha b st hb
  by_cases hal:a<L.length
  case neg=>
   obtain rfl:a=L.length:=by omega
   have e:=Hid.mk (ValR.no (b:=b) (st:=st) (show decV d (L.drop L.length)=none by simp [decV]) ha wv0)
   have hbv:bv 0#8=.val (.int .u8 0):=rfl
   refine H.q0r.view q5n rfl rfl ?_
   repeat' (first 
    | (with_reducible refine Fresh.intro fun b hb=>?_) <;> (try simp -dsimp -implicitDefEqProofs [*] at hb)
    | (simp -dsimp -implicitDefEqProofs [*]))
   revert b; intro w hw
   refine Does.xcall (j5w L hL b w _ st hb hw.1) ?_
   repeat' (simp -dsimp -implicitDefEqProofs [*])
   exact RetView.drop (st':=(b,rdR L L.length true)::st) q5o e.out
  obtain⟨k,hk⟩:∃ k,L[a]?=some k:=⟨_,List.getElem?_eq_getElem hal⟩
  have hdr:L.drop a=k::L.drop (a+1):=by
   rw [List.drop_eq_getElem_cons hal,q6v hk]
  have hbv:bv k=.val (.int .u8 (k.toNat:Nat)):=rfl
  have hkl:=k.isLt
  have tn:=fun x hx=>z6o L hL (a+1) hal b ((x:Nat × PObj)::st) hx
  by_cases h1:k.toNat=1
  ·have hk1:Hid (k=1#8):=⟨BitVec.eq_of_toNat_eq h1⟩
   refine H.q0r.view q5n rfl rfl ?_
   repeat' (first 
    | (with_reducible refine Fresh.intro fun b hb=>?_) <;> (try simp -dsimp -implicitDefEqProofs [*] at hb)
    | (simp -dsimp -implicitDefEqProofs [*]))
   revert b; intro w hw
   refine Does.xcall (k30 L a k hk hL b w _ st hb hw.1) ?_
   repeat' (simp -dsimp -implicitDefEqProofs [*])
   refine q5k (tn _ ⟨⟨hw.1.2,hw.1.1⟩,hb⟩) ?_
   clear tn
   intro e s h
   unfold NumR at h
   cases hn:k05 0 (L.drop (a+1)) with
   | none=>
    rw [hn] at h
    obtain⟨a',ha',e1,e2⟩:=h
    subst e1
    subst e2
    have e:=Hid.mk (ValR.no (d:=d) (L:=L) (a:=a) (a':=a') (b:=b) (st:=st) (by rw [hdr,hk1.out,decV.eq_def]; simp [hn]) ha' ⟨1,.int 0,q64,.nil,[]⟩)
    clear hn hdr
    have hz:IntKind.i64.wrap (IntKind.u64.wrap 0)=0:=by decide
    repeat' (simp -dsimp -implicitDefEqProofs [*])
    exact RetView.drop (st':=(b,rdR L a' true)::st) q5o e.out
   | some q=>
    obtain⟨u,r⟩:=q
    rw [hn] at h
    obtain⟨a',ha',hr,e1,e2⟩:=h
    subst e1
    subst e2
    have hi:=q75 0 _ u r hn
    have hu:u<18446744073709551616:=by have:=hi.2.2 (by omega); omega
    have e:=Hid.mk (ValR.yes (d:=d) (L:=L) (a:=a) (a':=a') (b:=b) (v:=.int (zag u)) (r:=r) (st:=st) (by rw [hdr,hk1.out,decV.eq_def]; simp [hn]) ha' hr)
    clear hn hi hr hdr
    have e1:(u:Int).tmod 2=((u % 2:Nat):Int):=by rw [Int.tmod_eq_emod_of_nonneg (by omega)]; omega
    have w2:IntKind.u64.wrap ((u % 2:Nat):Int)=((u % 2:Nat):Int):=q7n (by omega) (by omega)
    have w3:IntKind.u64.wrap ((u:Int) / 2)=(u:Int) / 2:=q7n (by omega) (by omega)
    by_cases hu2:u % 2=1
    ·have hz:IntKind.i64.wrap (IntKind.i64.wrap (-IntKind.i64.wrap ((u:Int) / 2))-1)=zag u:=by
      rw [q5l (n:=(u:Int) / 2) (by omega) (by omega),q5l (n:=-((u:Int) / 2)) (by omega) (by omega),q5l (by omega) (by omega)]
      unfold zag
      rw [if_pos hu2]
      omega
     repeat' (simp -dsimp -implicitDefEqProofs [*])
     exact RetView.drop (st':=(b,rdR L a' false)::st) q5o e.out
    ·have hz:IntKind.i64.wrap ((u:Int) / 2)=zag u:=by
      rw [q5l (by omega) (by omega)]
      unfold zag
      rw [if_neg hu2]
      omega
     repeat' (first 
      | (with_reducible refine And.intro (fun h=>?_) (fun h=>?_)) <;> (try (exfalso; omega))
      | (simp -dsimp -implicitDefEqProofs [*]))
     exact RetView.drop (st':=(b,rdR L a' false)::st) q5o e.out
  by_cases h2:k.toNat=2
  ·have hk2:Hid (k=2#8):=⟨BitVec.eq_of_toNat_eq h2⟩
   refine H.q0r.view q5n rfl rfl ?_
   repeat' (first 
    | (with_reducible refine Fresh.intro fun b hb=>?_) <;> (try simp -dsimp -implicitDefEqProofs [*] at hb)
    | (simp -dsimp -implicitDefEqProofs [*]))
   revert b; intro w hw
   refine Does.xcall (k30 L a k hk hL b w _ st hb hw.1) ?_
   repeat' (simp -dsimp -implicitDefEqProofs [*])
   refine q5k (tn _ ⟨⟨hw.1.2,hw.1.1⟩,hb⟩) ?_
   clear tn
   intro e s h
   unfold NumR at h
   cases hn:k05 0 (L.drop (a+1)) with
   | none=>
    rw [hn] at h
    obtain⟨a',ha',e1,e2⟩:=h
    subst e1
    subst e2
    have e:=Hid.mk (ValR.no (d:=d) (L:=L) (a:=a) (a':=a') (b:=b) (st:=st) (by rw [hdr,hk2.out,decV.eq_def]; simp [hn]) ha' wv0)
    clear hn hdr
    repeat' (simp -dsimp -implicitDefEqProofs [*])
    exact RetView.drop (st':=(b,rdR L a' true)::st) q5o e.out
   | some q=>
    obtain⟨u,r⟩:=q
    rw [hn] at h
    obtain⟨a',ha',hr,e1,e2⟩:=h
    subst e1
    subst e2
    have hi:=q75 0 _ u r hn
    have hu:u<18446744073709551616:=by have:=hi.2.2 (by omega); omega
    have hrl:r.length=L.length-a':=by rw [<-hr,List.length_drop]
    have w1:IntKind.u64.wrap ((L.length:Int)-a')=(L.length:Int)-a':=q7n (by omega) (by omega)
    have w0:IntKind.i64.wrap ((L.length:Int)-a')=(L.length:Int)-a':=q5l (by omega) (by omega)
    by_cases hl:u<=r.length
    case neg=>
     have e:=Hid.mk (ValR.no (d:=d) (L:=L) (a:=a) (a':=a') (b:=b) (st:=st) (by rw [hdr,hk2.out,decV.eq_def]; simp [hn,hl]) ha' wv0)
     clear hn hi hr hdr
     repeat' (first 
      | (with_reducible refine And.intro (fun h=>?_) (fun h=>?_)) <;> (try (exfalso; omega))
      | (simp -dsimp -implicitDefEqProofs [*]))
     exact RetView.drop (st':=(b,rdR L a' true)::st) q5o e.out
    have e:=Hid.mk (ValR.yes (d:=d) (L:=L) (a:=a) (a':=a'+u) (b:=b) (v:=.text (r.take u)) (r:=r.drop u) (st:=st) (by rw [hdr,hk2.out,decV.eq_def]; simp [hn,hl]) (by omega) (by rw [<-hr,List.drop_drop]))
    clear hn hi hdr
    have hbs:q8t (List.drop a' (List.take (a'+u) (q5p L)))=some ((r.take u).map UInt8.ofBitVec):=by
     rw [k24,k25,List.drop_take,hr,Nat.add_sub_cancel_left]
     exact q9h _
    have w2:IntKind.i64.wrap (u:Int)=u:=q5l (by omega) (by omega)
    have w3:IntKind.i64.wrap ((a':Int)+u)=(a':Int)+u:=q5l (by omega) (by omega)
    have w4:IntKind.i64.wrap (a':Int)=(a':Int):=q5l (by omega) (by omega)
    have t1:((a':Int)+u).toNat=a'+u:=by omega
    have t2:min (a'+u) L.length=a'+u:=by omega
    clear hr
    repeat' (first 
     | (with_reducible refine And.intro (fun h=>?_) (fun h=>?_)) <;> (try (exfalso; omega))
     | ((with_reducible refine q5v ?_ fun hk=>?_); omega)
     | (simp -dsimp -implicitDefEqProofs [*]))
    exact RetView.drop (st':=(b,rdR L (a'+u) false)::st) q5o (by have h:=e.out; simp only [q6t,k60,List.map_take] at h; exact h)
  by_cases h3:k.toNat=3
  ·have hk3:Hid (k=3#8):=⟨BitVec.eq_of_toNat_eq h3⟩
   have hnd:∀ a' u r,k05 0 (L.drop (a+1))=some (u,r)->(u<=r.length->d=0)->a'<=L.length->ValR d L a b st (.ret (.agg wv0.row)) ((b,rdR L a' true)::st):=fun a' u r hn h0 ha'=>ValR.no (by
    rw [hdr,hk3.out,decV.eq_def]
    cases d with
    | zero=>simp
    | succ d=>
     have hl:¬ u<=r.length:=fun h=>by have:=h0 h; omega
     simp [hn,hl]) ha' wv0
   refine H.q0r.view q5n rfl rfl ?_
   repeat' (first 
    | (with_reducible refine Fresh.intro fun b hb=>?_) <;> (try simp -dsimp -implicitDefEqProofs [*] at hb)
    | (simp -dsimp -implicitDefEqProofs [*]))
   revert b; intro w hw
   refine Does.xcall (k30 L a k hk hL b w _ st hb hw.1) ?_
   repeat' (simp -dsimp -implicitDefEqProofs [*])
   refine q5k (tn _ ⟨⟨hw.1.2,hw.1.1⟩,hb⟩) ?_
   clear tn
   intro e s h
   unfold NumR at h
   cases hn:k05 0 (L.drop (a+1)) with
   | none=>
    rw [hn] at h
    obtain⟨a',ha',e1,e2⟩:=h
    subst e1
    subst e2
    have e:=Hid.mk (ValR.no (d:=d) (L:=L) (a:=a) (a':=a') (b:=b) (st:=st) (by
     rw [hdr,hk3.out,decV.eq_def]
     cases d <;> simp [hn]) ha' wv0)
    clear hn hdr hnd ih
    repeat' (simp -dsimp -implicitDefEqProofs [*])
    exact RetView.drop (st':=(b,rdR L a' true)::st) q5o e.out
   | some q=>
    obtain⟨n,r⟩:=q
    rw [hn] at h
    obtain⟨a',ha',hr,e1,e2⟩:=h
    subst e1
    subst e2
    have hi:=q75 0 _ n r hn
    have hu:n<18446744073709551616:=by have:=hi.2.2 (by omega); omega
    have hrl:r.length=L.length-a':=by rw [<-hr,List.length_drop]
    have w1:IntKind.u64.wrap ((L.length:Int)-a')=(L.length:Int)-a':=q7n (by omega) (by omega)
    have w0:IntKind.i64.wrap ((L.length:Int)-a')=(L.length:Int)-a':=q5l (by omega) (by omega)
    by_cases hl:n<=r.length
    case neg=>
     have e:=Hid.mk (hnd a' n r hn (fun h=>absurd h hl) ha')
     clear hn hi hr hdr hnd ih
     repeat' (first 
      | (with_reducible refine And.intro (fun h=>?_) (fun h=>?_)) <;> (try (exfalso; omega))
      | (simp -dsimp -implicitDefEqProofs [*]))
     exact RetView.drop (st':=(b,rdR L a' true)::st) q5o e.out
    cases d with
    | zero=>
     have e:=Hid.mk (hnd a' n r hn (fun _=>rfl) ha')
     clear hn hi hr hdr hnd ih
     repeat' (first 
      | (with_reducible refine And.intro (fun h=>?_) (fun h=>?_)) <;> (try (exfalso; omega))
      | (simp -dsimp -implicitDefEqProofs [*]))
     exact RetView.drop (st':=(b,rdR L a' true)::st) q5o e.out
    | succ d=>
     have hdl:¬ (16:Int)-(d+1)=16:=by omega
     have hw16:IntKind.i64.wrap ((16:Int)-(d+1)+1)=16-d:=by rw [q5l (by omega) (by omega)]; omega
     have eY:=Hid.mk fun l r' a2 ha2 hr2 (h:k2d (decV d) n r=some (l,r'))=>ValR.yes (d:=d+1) (L:=L) (a:=a) (a':=a2) (b:=b) (v:=.list l) (r:=r') (st:=st) (by rw [hdr,hk3.out,decV.eq_def]; simp [hn,hl,h]) ha2 hr2
     have eN:=Hid.mk fun a2 ha2 q (h:k2d (decV d) n r=none)=>ValR.no (d:=d+1) (L:=L) (a:=a) (a':=a2) (b:=b) (st:=st) (by rw [hdr,hk3.out,decV.eq_def]; simp [hn,hl,h]) ha2 q
     replace ih:=Hid.mk (ih d (by omega) (by omega) L hL)
     have hL':Hid (L.length<=100000):=⟨hL⟩
     clear hn hi hk3 hbv hkl h1 h2 h3 hdr hnd
     repeat' (first 
      | (with_reducible refine Fresh.intro fun b hb=>?_) <;> (try simp -dsimp -implicitDefEqProofs [*] at hb)
      | (with_reducible refine And.intro (fun h=>?_) (fun h=>?_)) <;> (try (exfalso; omega))
      | (simp -dsimp -implicitDefEqProofs [*]))
     revert b; intro v hv
     refine q5h (fun y:Nat × Option (Acc Wv) × Nat × Bool=>[(0,.ptr b 0),(1,.int (16-(d+1):Int)),(4,.ptr w 0),(7,.val (.int .u64 (n:Nat))),(8,.ptr v 0),(9,.val (.int .u64 (y.1:Nat)))])
      (fun y=>(b,rdR L y.2.2.1 y.2.2.2)::q6e T.apiValue ((v,.arr T.apiValue [.int 3,.int 0,q64,q7s y.2.1])::(w,.arr T.apiValue v0)::st) y.2.1)
      (fun y=>y.1<=n/\accOk k53 4 ((v,.arr T.apiValue [.int 3,.int 0,q64,q7s y.2.1])::(w,.arr T.apiValue v0)::st) y.2.1/\q54 (q6e T.apiValue ((v,.arr T.apiValue [.int 3,.int 0,q64,q7s y.2.1])::(w,.arr T.apiValue v0)::st) y.2.1) b/\y.2.2.1<=L.length/\Hid ((q50 y.2.1).length=y.1/\(y.2.2.2=true->k2d (decV d) n r=none)/\(y.2.2.2=false->∃ vs:List Vl,q50 y.2.1=vs.map z3w/\k2d (decV d) n r=match k2d (decV d) (n-y.1) (L.drop y.2.2.1) with | some (l,r')=>some (vs++l,r') | none=>none)))
      (fun y=>n-y.1) (0,none,a',false)
      ⟨Nat.zero_le _,trivial,⟨⟨hv.1.2,hv.1.1⟩,⟨hw.1.2,hw.1.1⟩,hb⟩,ha',Hid.mk ⟨rfl,(fun h=>by cases h),fun _=>⟨[],rfl,by
       show _=match k2d (decV d) (n-0) (L.drop a') with | some (l,r')=>some ([]++l,r') | none=>none
       rw [hr,Nat.sub_zero]
       cases k2d (decV d) n r with
       | none=>rfl
       | some q=>rfl⟩⟩⟩ (by simp) ?_ ?_
     ·exact StLe.swap hv.1.1
     clear hr hrl
     rintro⟨i,o,p,bad⟩ ⟨hi,ho,hbn,hp,hI⟩
     replace hi:i<=n:=hi
     replace ho:accOk k53 4 ((v,.arr T.apiValue [.int 3,.int 0,q64,q7s o])::(w,.arr T.apiValue v0)::st) o:=ho
     replace hbn:q54 (q6e T.apiValue ((v,.arr T.apiValue [.int 3,.int 0,q64,q7s o])::(w,.arr T.apiValue v0)::st) o) b:=hbn
     replace hp:p<=L.length:=hp
     replace hI:Hid ((q50 o).length=i/\(bad=true->k2d (decV d) n r=none)/\(bad=false->∃ vs:List Vl,q50 o=vs.map z3w/\k2d (decV d) n r=match k2d (decV d) (n-i) (L.drop p) with | some (l,r')=>some (vs++l,r') | none=>none)):=hI
     simp only
     have hg:=k0w (T:=T.apiValue) ho (b:=v) (x:=.arr T.apiValue [.int 3,.int 0,q64,q7s o]) (by simp)
     have hfin:(bad=false->¬ i<n)->Hid (ValR (d+1) L a b st (.ret (.agg [.int 3,.int 0,q64,.list false (k53 (q50 o)) (q50 o).length])) ((b,rdR L p bad)::st)):=fun h0=>⟨by
      cases hbad:bad with
      | true=>exact eN.out p hp ⟨3,.int 0,q64,.list false (k53 (q50 o)) (q50 o).length,[]⟩ (hI.out.2.1 hbad)
      | false=>
       obtain⟨vs,h1,h2⟩:=hI.out.2.2 hbad
       have e0:n-i=0:=by have:=h0 hbad; omega
       rw [e0] at h2
       have:=eY.out vs (L.drop p) p hp rfl (by rw [h2]; simp [k2d])
       rw [h1,k54,List.length_map]
       exact this⟩
     cases hbad:bad with
     | true=>
      rw [hbad] at hfin
      have e:=hfin (fun h=>nomatch h)
      clear hfin hI eY eN ih hg
      by_cases hin:i<n
      ·cases o with
       | none=>
        simp only [k1l,q8w,q8x] at ho hbn e ⊢
        repeat' (simp -dsimp -implicitDefEqProofs [*])
        refine RetView.sees (SeesV.le (q:=.agg [.int 3,.int 0,q64,.list false [] 0]) (PLeV.aggs ⟨.refl _,.refl _,.refl _,.nil1,trivial⟩)) ?_
        exact RetView.drop (st':=(b,rdR L p true)::st) q5o e.out
       | some a=>
        have hfr:=Frz.acc (T:=T.apiValue) ho.1
        obtain⟨A,ab,cap,C⟩:=a
        simp only [q7b,q52,q97,q7k] at ho hbn e hfr ⊢
        obtain⟨ha,hn⟩:=ho
        replace hfr:=Hid.mk hfr
        replace ha:=Hid.mk ha
        simp only [q54] at hn hbn
        repeat' (simp -dsimp -implicitDefEqProofs [*])
        refine RetView.sees (st':=(ab,.arr T.apiValue C)::(b,rdR L p true)::st) (.drop (StLe.trans (StLe.swap hbn.1.1) q5o)) ?_
        exact RetView.freeze (.agg [.int 3,.int 0,q64,.list false (k53 A) A.length]) (by simp [*]) (.agg (.cons (.refl _) (.cons (.refl _) (.cons (.refl _) (.cons hfr.out .nil))))) (.same e.out)
      ·cases o with
       | none=>
        simp only [k1l,q8w,q8x] at ho hbn e ⊢
        repeat' (simp -dsimp -implicitDefEqProofs [*])
        refine RetView.sees (SeesV.le (q:=.agg [.int 3,.int 0,q64,.list false [] 0]) (PLeV.aggs ⟨.refl _,.refl _,.refl _,.nil1,trivial⟩)) ?_
        exact RetView.drop (st':=(b,rdR L p true)::st) q5o e.out
       | some a=>
        have hfr:=Frz.acc (T:=T.apiValue) ho.1
        obtain⟨A,ab,cap,C⟩:=a
        simp only [q7b,q52,q97,q7k] at ho hbn e hfr ⊢
        obtain⟨ha,hn⟩:=ho
        replace hfr:=Hid.mk hfr
        replace ha:=Hid.mk ha
        simp only [q54] at hn hbn
        repeat' (simp -dsimp -implicitDefEqProofs [*])
        refine RetView.sees (st':=(ab,.arr T.apiValue C)::(b,rdR L p true)::st) (.drop (StLe.trans (StLe.swap hbn.1.1) q5o)) ?_
        exact RetView.freeze (.agg [.int 3,.int 0,q64,.list false (k53 A) A.length]) (by simp [*]) (.agg (.cons (.refl _) (.cons (.refl _) (.cons (.refl _) (.cons hfr.out .nil))))) (.same e.out)
     | false=>
      rw [hbad] at hfin
      by_cases hin:i<n
      case neg=>
       have e:=hfin (fun _=>hin)
       clear hfin hI eY eN ih hg
       cases o with
       | none=>
        simp only [k1l,q8w,q8x] at ho hbn e ⊢
        repeat' (simp -dsimp -implicitDefEqProofs [*])
        refine RetView.sees (SeesV.le (q:=.agg [.int 3,.int 0,q64,.list false [] 0]) (PLeV.aggs ⟨.refl _,.refl _,.refl _,.nil1,trivial⟩)) ?_
        exact RetView.drop (st':=(b,rdR L p false)::st) q5o e.out
       | some a=>
        have hfr:=Frz.acc (T:=T.apiValue) ho.1
        obtain⟨A,ab,cap,C⟩:=a
        simp only [q7b,q52,q97,q7k] at ho hbn e hfr ⊢
        obtain⟨ha,hn⟩:=ho
        replace hfr:=Hid.mk hfr
        replace ha:=Hid.mk ha
        simp only [q54] at hn hbn
        repeat' (simp -dsimp -implicitDefEqProofs [*])
        refine RetView.sees (st':=(ab,.arr T.apiValue C)::(b,rdR L p false)::st) (.drop (StLe.trans (StLe.swap hbn.1.1) q5o)) ?_
        exact RetView.freeze (.agg [.int 3,.int 0,q64,.list false (k53 A) A.length]) (by simp [*]) (.agg (.cons (.refl _) (.cons (.refl _) (.cons (.refl _) (.cons hfr.out .nil))))) (.same e.out)
      clear hfin
      have hwi:IntKind.u64.wrap ((i:Int)+1)=(i:Int)+1:=q7n (by omega) (by omega)
      have hwo:=j08 ho
      obtain⟨m,hm⟩:∃ m,n-i=m+1:=⟨n-i-1,by omega⟩
      repeat' (simp -dsimp -implicitDefEqProofs [-q5g, *])
      refine DrawLate.intro (b::accB o) ?_
      repeat' (simp -dsimp -implicitDefEqProofs [-q5g, *])
      refine q5k (ih.out p hp b _ hbn) ?_
      intro e s hV
      have H0:∃ (q:Wv) (p2:Nat) (bad2:Bool),e=.ret (.agg q.row)/\s=(b,rdR L p2 bad2)::q6e T.apiValue ((v,.arr T.apiValue [.int 3,.int 0,q64,q7s o])::(w,.arr T.apiValue v0)::st) o/\p2<=L.length/\Hid ((bad2=true->k2d (decV d) n r=none)/\(bad2=false->∃ vs:List Vl,q50 o++[q]=vs.map z3w/\k2d (decV d) n r=match k2d (decV d) (n-(i+1)) (L.drop p2) with | some (l,r')=>some (vs++l,r') | none=>none)):=by
       obtain⟨vs,h1,h2⟩:=hI.out.2.2 hbad
       unfold ValR at hV
       cases hv2:decV d (L.drop p) with
       | none=>
        rw [hv2] at hV
        obtain⟨p2,hp2,⟨q,e1⟩,e2⟩:=hV
        refine⟨q,p2,true,e1,e2,hp2,Hid.mk ⟨fun _=>?_,(fun h=>by cases h)⟩⟩
        rw [h2,hm]
        simp [k2d,hv2]
       | some t=>
        obtain⟨v2,R2⟩:=t
        rw [hv2] at hV
        obtain⟨p2,hp2,hr2,e1,e2⟩:=hV
        refine⟨z3w v2,p2,false,by rw [e1,k52],e2,hp2,Hid.mk ⟨(fun h=>by cases h),fun _=>⟨vs++[v2],by rw [h1]; simp, ?_⟩⟩⟩
        rw [h2,hm,show n-(i+1)=m by omega,hr2]
        simp only [k2d,hv2]
        cases k2d (decV d) m R2 with
        | none=>rfl
        | some q=>simp
      obtain⟨q,p2,bad2,e1,e2,hp2,hX⟩:=H0
      subst e1
      subst e2
      have hol:Hid ((q50 o).length=i):=⟨hI.out.1⟩
      clear eY eN ih hI hV hm hbad
      repeat' (simp -dsimp -implicitDefEqProofs [-q5g, *])
      refine xappend_box j5v z6p o ho hbn [q] (by simp [k53]) rfl (by omega) (by rw [hol.out]; omega) fun o' ho' hl'=>?_
      refine⟨j5o ho', ?_⟩
      cases o' with
      | none=>exact absurd (congrArg List.length hl') (by simp)
      | some a=>
       have hn:=ho'.2
       obtain⟨A,ab,cap,C⟩:=a
       simp only [q7b,q52,q7k,q54] at hn hl' ⊢
       have hok:=Hid.mk ho'.1
       have hl2:Hid (A=q50 o++[q]):=⟨hl'⟩
       clear hl' ho' ho hbn hg
       repeat' (simp -dsimp -implicitDefEqProofs [*])
       refine Next.intro (i+1,some ⟨A,ab,cap,C⟩,p2,bad2) ⟨by simp only; omega,⟨hok.out, ?_⟩, ?_,hp2,Hid.mk ⟨?_,hX.out.1, ?_⟩⟩ (by simp only; omega) (by simp) ?_
       ·exact hn.2
       ·exact⟨⟨hn.1.2,hn.1.1⟩,⟨hv.1.2,hv.1.1⟩,⟨hw.1.2,hw.1.1⟩,hb⟩
       ·show A.length=i+1
        rw [hl2.out,List.length_append,hol.out]
        rfl
       ·show bad2=false->∃ vs:List Vl,A=vs.map z3w/\_
        rw [hl2.out]
        exact hX.out.2
       ·exact StLe.swap hn.1.1
  have e:=Hid.mk fun a' h=>ValR.no (d:=d) (L:=L) (a:=a) (a':=a') (b:=b) (st:=st) (by
   have n1:¬ k=1#8:=fun e=>h1 (by rw [e]; rfl)
   have n2:¬ k=2#8:=fun e=>h2 (by rw [e]; rfl)
   have n3:¬ k=3#8:=fun e=>h3 (by rw [e]; rfl)
   rw [hdr,decV.eq_def]
   simp [n1,n2,n3]) h wv0
  clear tn
  refine H.q0r.view q5n rfl rfl ?_
  repeat' (first 
   | (with_reducible refine Fresh.intro fun b hb=>?_) <;> (try simp -dsimp -implicitDefEqProofs [*] at hb)
   | (simp -dsimp -implicitDefEqProofs [*]))
  revert b; intro w hw
  refine Does.xcall (k30 L a k hk hL b w _ st hb hw.1) ?_
  repeat' (first 
   | (with_reducible refine And.intro (fun h=>?_) (fun h=>?_)) <;> (try (exfalso; omega))
   | (simp -dsimp -implicitDefEqProofs [*]))
  exact RetView.drop (st':=(b,rdR L (a+1) true)::st) q5o (e.out _ hal)
open Go.Pv Go.Pv.Sha
set_option maxRecDepth 100000
set_option maxHeartbeats 4000000
theorem q9i {α:Type}{row:List α->List PV}{k:Nat}(hrl:∀ l,(row l).length=l.length*k)(hra:∀ l m,row (l++m)=row l++row m){T:TypeId}{bytes:Nat}{st:q5f}{K:PV->q5f->Prop}
  (ys xs:List α) {new:List PV} {m n:Nat} (hn:ys.length=n) (hnew:row xs=new) (hm:xs.length=m) (hm0:0<m) (hsz:(n+m)*bytes<=140737488355328)
  (h:∀ o':Option (Acc α),accOk row k st o'->q50 o'=ys++xs->K (q7s o') (q6e T st o')):q67 T bytes k (.list true (row ys) n) new m st K:=by
 have h1:q67 T bytes k .nil (row ys++new) (n+m) st K:=q9s hrl (ys++xs) (by rw [hra,hnew]) (by rw [List.length_append,hn,hm]) (by omega) (by simpa using hsz) fun a' ha' hl' hb'=>h (some a') ⟨ha',hb'⟩ (by simpa using hl')
 rw [k4p] at h1
 rw [q5g]
 exact⟨fun h=>absurd h (by omega),fun _=>⟨rfl,by rw [hrl,hn],h1.2 (by omega)⟩⟩
theorem k55 (n:Nat):0<(k06 n).length:=by
 by_cases h:n<128
 ·rw [k6z h]; simp
 ·rw [k9o h]; simp
theorem k31 (u:Nat):u<18446744073709551616->∀ st,Rets P F.q1t [.val (.int .u64 (u:Int))] st (q53 false (k06 u)):=by
 induction u using Nat.strongRecOn with
 | ind u ih=>
  intro hu st
  refine H.q1t.view q5n rfl rfl ?_
  have hb:=k5x u
  by_cases h128:u<128
  ·have h:(u:Int)<128:=by omega
   rw [k6z h128]
   generalize BitVec.ofNat 8 u=x at *
   repeat' (first 
    | (with_reducible refine Lit.imm ?_)
    | (simp -dsimp -implicitDefEqProofs [*]))
   exact .loose1 (.same ⟨rfl,rfl⟩)
  ·have h:¬ (u:Int)<128:=by omega
   have ih':=fun st=>ih (u / 128) (by omega) (by omega) st
   clear ih hb
   obtain⟨v,hv⟩:∃ v,u / 128=v:=⟨_,rfl⟩
   obtain⟨r,hr⟩:∃ r,u % 128=r:=⟨_,rfl⟩
   have hr1:(u:Int) % 128=r:=by omega
   have hr2:(u:Int).tmod 128=r:=by rw [Int.tmod_eq_emod_of_nonneg (by omega)]; omega
   have hv1:(u:Int) / 128=v:=by omega
   have w1:IntKind.u64.wrap (v:Int)=v:=q7n (by omega) (by omega)
   have w2:IntKind.u64.wrap ((r:Int)+128)=(r:Int)+128:=q7n (by omega) (by omega)
   have w3:IntKind.u64.wrap (r:Int)=r:=q7n (by omega) (by omega)
   have hb:PV.val (.int .u8 (IntKind.u8.wrap ((r:Int)+128)))=bv (BitVec.ofNat 8 (r+128)):=k5x (r+128)
   rw [k9o h128,hr,hv]
   rw [hv] at ih'
   have hnl:=q69 (n:=v) (by omega)
   have hnp:=k55 v
   clear hv hr
   generalize BitVec.ofNat 8 (r+128)=x at *
   generalize k06 v=E at *
   repeat' (first 
    | (with_reducible refine Rets.xcall (ih' _) ?_)
    | (with_reducible refine Lit.imm ?_)
    | (simp -dsimp -implicitDefEqProofs [-q5g, *]))
   refine q9i (bytes:=1) (n:=1) q6u q5y [x] E rfl rfl rfl hnp (by omega) fun o ho hol=>?_
   have kl:Hid (q50 o=x::E):=⟨hol⟩
   clear hol
   repeat' (simp -dsimp -implicitDefEqProofs [-q5g, *])
   exact RetView.accP1 rfl ho (.same ⟨by rw [kl.out],rfl⟩)
theorem z9e (n:Nat)(hn:n<1000000000000)(st:q5f):Rets P F.q11 [.int (n:Int)] st (.val (.int .u64 ((2*n:Nat):Int))):=by
 refine H.q11.pure q5n rfl rfl ?_
 have h1:IntKind.u64.wrap (n:Int)=n:=q7n (by omega) (by omega)
 have h2:IntKind.u64.wrap (2*(n:Int))=2*(n:Int):=q7n (by omega) (by omega)
 repeat' (simp -dsimp -implicitDefEqProofs [*])
theorem j5x (n:Nat)(hn:n<1000000000000)(st:q5f):Rets P F.q0j [.agg (j3i n)] st (q53 false (1#8::k06 (2*n))):=by
 refine H.q0j.view q5n rfl rfl ?_
 have hu:=fun st=>z9e n hn st
 have hm:=fun st=>k31 (2*n) (by omega) st
 have hnl:=q69 (n:=2*n) (by omega)
 have hnp:=k55 (2*n)
 have e:((2*n:Nat):Int)=2*(n:Int):=by omega
 rw [e] at hu hm
 generalize k06 (2*n)=E at *
 repeat' (first 
  | (with_reducible refine Fresh.intro fun b hb=>?_) <;> (try simp -dsimp -implicitDefEqProofs [*] at hb)
  | (with_reducible refine Rets.xcall (hu _) ?_)
  | (with_reducible refine Rets.xcall (hm _) ?_)
  | (with_reducible refine Lit.imm ?_)
  | (simp -dsimp -implicitDefEqProofs [-q5g, *]))
 refine q9i (bytes:=1) (n:=1) q6u q5y [1#8] E rfl rfl rfl hnp (by omega) fun o ho hol=>?_
 have kl:Hid (q50 o=1#8::E):=⟨hol⟩
 clear hol
 repeat' (simp -dsimp -implicitDefEqProofs [-q5g, *])
 exact RetView.accP1 rfl ho (.drop q5o ⟨by rw [kl.out],rfl⟩)
theorem j2p (x:ByteArray)(hx:x.size<=1000)(st:q5f):Rets P F.q0j [.agg (y2v x)] st (q53 false (2#8::(k06 x.size++y7v x))):=by
 refine H.q0j.view q5n rfl rfl ?_
 have hm:=fun st=>k31 x.size (by omega) st
 have hsz:IntKind.u64.wrap (x.size:Int)=(x.size:Int):=q7n (by omega) (by omega)
 have hnl:=q69 (n:=x.size) (by omega)
 have hnp:=k55 x.size
 generalize k06 x.size=E at *
 repeat' (first 
  | (with_reducible refine Fresh.intro fun b hb=>?_) <;> (try simp -dsimp -implicitDefEqProofs [*] at hb)
  | (with_reducible refine Rets.xcall (hm _) ?_)
  | (with_reducible refine DrawLate.intro [] ?_)
  | (simp -dsimp -implicitDefEqProofs [-q5g, *]))
 refine q9i (bytes:=1) (n:=1) q6u q5y [2#8] E rfl rfl rfl hnp (by omega) fun o ho hol=>?_
 have kl:Hid (q50 o=2#8::E):=⟨hol⟩
 clear hol
 refine⟨q7p ho (Cls.self _ _), ?_⟩
 repeat' (simp -dsimp -implicitDefEqProofs [-q5g, *])
 refine q8z q6u q5y o ho (y7v x) (k9b x).symm (j8m x) (by rw [kl.out]; simp; omega) fun o3 ho3 hl3=>?_
 have kl3:Hid (q50 o3=2#8::(E++y7v x)):=⟨by rw [hl3,kl.out]; simp⟩
 clear hl3 kl
 refine⟨q7p ho3 (Cls.self _ _), ?_⟩
 repeat' (simp -dsimp -implicitDefEqProofs [-q5g, *])
 exact RetView.accP1 rfl ho3 (.drop q5o ⟨by rw [kl3.out],rfl⟩)
theorem z12 (l:List Wv)(hl:l.length<=1000)(hB:∀ v ∈ l,v.B.length<=2000)(hok:∀ v ∈ l,∀ st,Rets P F.q0j [.agg v.row] st (q53 false v.B))(st:q5f):Rets P F.q0j [.agg (q9x (l.flatMap Wv.row) l.length)] st (q53 false (3#8::(k06 l.length++l.flatMap Wv.B))):=by
 refine H.q0j.view q5n rfl rfl ?_
 have hm:=fun st=>k31 l.length (by omega) st
 have hsz:IntKind.u64.wrap (l.length:Int)=(l.length:Int):=q7n (by omega) (by omega)
 have hnl:=q69 (n:=l.length) (by omega)
 have hnp:=k55 l.length
 generalize k06 l.length=E at *
 repeat' (first 
  | (with_reducible refine Fresh.intro fun b hb=>?_) <;> (try simp -dsimp -implicitDefEqProofs [*] at hb)
  | (with_reducible refine Rets.xcall (hm _) ?_)
  | (with_reducible refine Lit.imm ?_)
  | (simp -dsimp -implicitDefEqProofs [-q5g, *]))
 refine q9i (bytes:=1) (n:=1) q6u q5y [3#8] E rfl rfl rfl hnp (by omega) fun o ho hol=>?_
 have kl:Hid (q50 o=3#8::E):=⟨hol⟩
 clear hol hm hsz
 repeat' (simp -dsimp -implicitDefEqProofs [-q5g, *])
 have hgb:q55 ((b,.arr T.apiValue (q9x (l.flatMap Wv.row) l.length))::st) b=some (.arr T.apiValue (q9x (l.flatMap Wv.row) l.length)):=by simp
 have hns:q54 st b:=‹_›
 have hle:∀ q:Option (Acc (BitVec 8)),accOk q5p 1 ((b,.arr T.apiValue (q9x (l.flatMap Wv.row) l.length))::st) q->RetView .ret (q7s q) (q6e T.uint8 ((b,.arr T.apiValue (q9x (l.flatMap Wv.row) l.length))::st) q) (fun e s=>e=.ret (q53 false (q50 q))/\s=st):=fun q hq=>RetView.accP1 rfl hq (.drop (.fresh hns) ⟨rfl,rfl⟩)
 have kle:Hid (∀ q:Option (Acc (BitVec 8)),accOk q5p 1 ((b,.arr T.apiValue (q9x (l.flatMap Wv.row) l.length))::st) q->RetView .ret (q7s q) (q6e T.uint8 ((b,.arr T.apiValue (q9x (l.flatMap Wv.row) l.length))::st) q) (fun e s=>e=.ret (q53 false (q50 q))/\s=st)):=⟨hle⟩
 clear hle hns
 have hlrow:∃ rows,l.flatMap Wv.row=rows/\rows.length=l.length*4:=⟨_,rfl,q6h (enc:=Wv.row) (k:=4) (fun _=>rfl) l⟩
 obtain⟨rows,hrows,hfl⟩:=hlrow
 rw [hrows] at hgb kle ho
 rw [hrows]
 generalize hst1:(b,PObj.arr T.apiValue (q9x rows l.length))::st=st1 at *
 have kok:Hid (∀ v ∈ l,∀ st,Rets P F.q0j [.agg v.row] st (q53 false v.B)):=⟨hok⟩
 have kB:Hid (∀ v ∈ l,v.B.length<=2000):=⟨hB⟩
 have krows:Hid (l.flatMap Wv.row=rows):=⟨hrows⟩
 clear hok hB hst1 hrows
 refine q5h (fun y:Nat × Option (Acc (BitVec 8))=>[(1,.ptr b 0),(3,q7s y.2),(4,.int (y.1:Nat))]) (fun y=>q6e T.uint8 st1 y.2) (fun y=>y.1<=l.length/\accOk q5p 1 st1 y.2/\q50 y.2=3#8::(E++(l.take y.1).flatMap Wv.B)) (fun y=>l.length-y.1) (0,o) ⟨by omega,ho,by rw [kl.out]; simp⟩ (by simp) (.refl _) ?_
 clear kl ho
 clear o
 rintro⟨i,q⟩ ⟨hi,hq,hql⟩
 simp only at hi hq hql
 have kl:Hid (q50 q=3#8::(E++(l.take i).flatMap Wv.B)):=⟨hql⟩
 clear hql
 have hgq:=k0w (T:=T.uint8) hq hgb
 by_cases hil:i<l.length
 ·have hv:=kok.out l[i] (List.getElem_mem hil)
  have hs:=q8v (enc:=Wv.row) (k:=4) (fun _=>rfl) l i hil
  rw [krows.out] at hs
  have kT:Hid ((l.take (i+1)).flatMap Wv.B=(l.take i).flatMap Wv.B++l[i].B):=⟨by rw [List.take_succ_eq_append_getElem hil,List.flatMap_append,List.flatMap_cons,List.flatMap_nil,List.append_nil]⟩
  have hwi:=q5i (n:=i) (by omega)
  have hb2:=kB.out l[i] (List.getElem_mem hil)
  have hlq:(q50 q).length<=10000000:=by
   rw [kl.out]
   have h1:=k5y (l.take i) fun v hv=>kB.out v (List.mem_of_mem_take hv)
   simp only [List.length_append,List.length_cons,List.length_take] at h1 ⊢
   omega
  generalize l[i]=v at *
  repeat' (first 
   | (with_reducible refine Rets.xcall (hv _) ?_)
   | (simp -dsimp -implicitDefEqProofs [-q5g, *]))
  refine q8z q6u q5y q hq v.B rfl rfl (by omega) fun q2 hq2 hl2=>?_
  have kl2:Hid (q50 q2=3#8::(E++(l.take (i+1)).flatMap Wv.B)):=⟨by rw [hl2,kl.out,kT.out]; simp⟩
  clear hl2 kl
  repeat' (simp -dsimp -implicitDefEqProofs [-q5g, *])
  exact Next.intro (i+1,q2) ⟨by simp only; omega,hq2,kl2.out⟩ (by simp only; omega) (by simp) q5o
 ·have e:i=l.length:=by omega
  subst e
  have kl2:Hid (q50 q=3#8::(E++l.flatMap Wv.B)):=⟨by rw [kl.out,List.take_length]⟩
  have hend:=kle.out q hq
  clear kl
  rw [kl2.out] at hend
  repeat' (simp -dsimp -implicitDefEqProofs [-q5g, *])
end Go.Proofs.YtmlmoaimjifpgaaGreat
