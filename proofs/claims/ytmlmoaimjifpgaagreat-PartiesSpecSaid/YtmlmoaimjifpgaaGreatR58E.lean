/- The reference: events, decisions and notes in form; valid parties. -/
import Derived.Test.YtmlmoaimjifpgaaGreatW58C
import Derived.Test.YtmlmoaimjifpgaaGreatC58N
import Derived.Test.YtmlmoaimjifpgaaGreatN58E
import Derived.Test.YtmlmoaimjifpgaaGreatLFr
namespace Go.Proofs.YtmlmoaimjifpgaaGreat
open Go.Pv Go.Pv.Cd
set_option maxRecDepth 100000
set_option maxHeartbeats 4000000
theorem z3y (d:Decision)(st:q5f):Rets P F.q3o [d.pv] st (.bool (q7r d)):=by
 refine H.q3o.pure q5n rfl rfl ?_
 by_cases h1:d.no<0
 ·have hv:q7r d=false:=by simp [q7r,btw]; intros; omega
  repeat' (first 
   | (with_reducible refine Fresh.intro fun b hb=>?_) <;> (try simp -dsimp -implicitDefEqProofs [*] at hb)
   | (simp -dsimp -implicitDefEqProofs [q76, *]))
 by_cases h2:1048576<d.no
 ·have hv:=k3w (d:=d) (by omega)
  repeat' (first 
   | (with_reducible refine Fresh.intro fun b hb=>?_) <;> (try simp -dsimp -implicitDefEqProofs [*] at hb)
   | (simp -dsimp -implicitDefEqProofs [q76, *]))
 by_cases h3:d.known<0
 ·have hv:=k3w (d:=d) (by omega)
  repeat' (first 
   | (with_reducible refine Fresh.intro fun b hb=>?_) <;> (try simp -dsimp -implicitDefEqProofs [*] at hb)
   | (simp -dsimp -implicitDefEqProofs [q76, *]))
 by_cases h4:2097152<=d.known
 ·have hv:=k3w (d:=d) (by omega)
  repeat' (first 
   | (with_reducible refine Fresh.intro fun b hb=>?_) <;> (try simp -dsimp -implicitDefEqProofs [*] at hb)
   | (simp -dsimp -implicitDefEqProofs [q76, *]))
 have hv:q7r d=q8d d:=k9l (last:=-1) (by omega) (by omega) (by omega) (by omega) (by omega)
 rw [hv]
 clear hv
 by_cases k1:d.kind=1
 ·have hr:q8d d=k4u d:=by simp [q8d,k1]
  rw [hr]
  unfold k4u k3a
  repeat' (first 
   | (with_reducible refine Fresh.intro fun b hb=>?_) <;> (try simp -dsimp -implicitDefEqProofs [*] at hb)
   | (with_reducible refine And.intro (fun h=>?_) (fun h=>?_)) <;> (try (exfalso; omega))
   | (simp -dsimp -implicitDefEqProofs [q76, *]))
  all_goals first | (intros; omega) | grind
 by_cases k2:d.kind=2
 ·have hr:q8d d=k9k d:=by simp [q8d,k2]
  rw [hr]
  unfold k9k k3a
  repeat' (first 
   | (with_reducible refine Fresh.intro fun b hb=>?_) <;> (try simp -dsimp -implicitDefEqProofs [*] at hb)
   | (with_reducible refine And.intro (fun h=>?_) (fun h=>?_)) <;> (try (exfalso; omega))
   | (simp -dsimp -implicitDefEqProofs [q76, *]))
  all_goals first | (intros; omega) | grind
 by_cases k3:d.kind=3
 ·have hr:q8d d=addD d:=by simp [q8d,k3]
  rw [hr]
  unfold addD
  repeat' (first 
   | (with_reducible refine Fresh.intro fun b hb=>?_) <;> (try simp -dsimp -implicitDefEqProofs [*] at hb)
   | (with_reducible refine Rets.xcall (j2l _ _) ?_)
   | (with_reducible refine And.intro (fun h=>?_) (fun h=>?_)) <;> (try (exfalso; omega))
   | (simp -dsimp -implicitDefEqProofs [q76, *]))
  all_goals first | (intros; omega) | grind
 ·have hr:q8d d=false:=by simp [q8d,k1,k2,k3]
  rw [hr]
  repeat' (first 
   | (with_reducible refine Fresh.intro fun b hb=>?_) <;> (try simp -dsimp -implicitDefEqProofs [*] at hb)
   | (simp -dsimp -implicitDefEqProofs [q76, *]))
  all_goals first | (intros; omega) | grind
theorem z0p (t:Bool)(l:List Decision)(st:q5f):Rets P F.q22 [Decision.lst t l] st (.int (q86 l)):=by
 refine H.q22.pure q5n rfl rfl ?_
 repeat' (first 
  | (with_reducible refine And.intro (fun h=>?_) (fun h=>?_)) <;> (try (exfalso; omega))
  | (simp -dsimp -implicitDefEqProofs [*]))
 ·simp [q86]; omega
 ·refine q5h (fun i=>[(0,Decision.lst t l),(3,.int (i:Nat))]) (fun _=>st) (fun i=>i<=l.length/\okD (l.take i)) (fun i=>l.length-i) 0 ?_ ?_ ?_ ?_
  ·exact⟨Nat.zero_le _,by simpa using z8w⟩
  ·simp
  ·exact StLe.refl _
  rintro i ⟨hi,hok⟩
  have hw:=q5i (n:=i) (by omega)
  have hw2:IntKind.i64.wrap ((i:Int)-1)=(i:Int)-1:=q5l (by omega) (by omega)
  have ht:((i:Int)-1).toNat=i-1:=by omega
  have hlast:0<i->∀ h:i-1<l.length,k5u (l.take i)=l[i-1].no:=fun h0 h=>by
   have:=z1y h
   rwa [Nat.sub_add_cancel h0] at this
  have hl0:i=0->k5u (l.take i)=-1:=fun h=>by subst h; simp
  have hno:=fun (hil:i<l.length) hn=>(z6d hil hok (by omega) hn)
  have hst:=fun (hil:i<l.length)=>(z3p hil hok)
  have hfin:l.length<=i->q86 l=0:=fun h=>by rw [List.take_of_length_le h] at hok; exact (k4v.2 ⟨by omega,hok⟩)
  clear hok
  generalize k5u (l.take i)=last at *
  repeat' (first 
   | (with_reducible refine Rets.xcall (z3y _ _) ?_)
   | (with_reducible refine DrawLate.intro [] ?_)
   | (with_reducible refine And.intro (fun h=>?_) (fun h=>?_)) <;> (try (exfalso; omega))
   | ((with_reducible refine q5v ?_ fun hk=>?_); omega)
   | (simp -dsimp -implicitDefEqProofs [*]))
  ·have e:last<(l[i]'(by assumption)).no:=by rw [hlast (by omega) (by omega)]; exact h
   exact Next.intro (i+1) ⟨by omega,(hst (by assumption)).2 ⟨by assumption,e⟩⟩ (by omega) (by simp [*]) q5o
  ·subst h
   have hv:q7r (l[0]'(by assumption))=true:=by assumption
   have e:last<(l[0]'(by assumption)).no:=by rw [hl0 rfl]; have:=k5v hv; omega
   exact Next.intro 1 ⟨by omega,(hst (by assumption)).2 ⟨hv,e⟩⟩ (by omega) (by simp) q5o
theorem z0q (d:Decision)(st:q5f):Rets P F.q22 [.list true d.enc 1] st (.int (q86 [d])):=by
 have:=z0p true [d] st
 have e:Decision.lst true [d]=.list true d.enc 1:=by simp [Decision.lst]
 rwa [e] at this
theorem k0z (n:Note)(st:q5f):Rets P F.q1c [n.pv] st (.bool (q5q n)):=by
 have k2:=z1z n.dec
 have c1:=fun st=>k5t n.ev st
 have c2:=fun st=>z0q n.dec st
 generalize q86 [n.dec]=E2 at *
 by_cases h1:n.kind=1
 ·have ef:q5q n=(q8c n.ev && decide (n.dec=zeroD)):=by unfold q5q; rw [if_pos h1]
  rw [ef]
  clear ef k2 c2
  by_cases hz:n.dec=zeroD
  ·rw [decide_eq_true hz,Bool.and_true]
   generalize q8c n.ev=E1 at *
   have hs:=n.subDec
   rw [hz] at hs
   refine H.q1c.pure q5n rfl rfl ?_
   repeat' (first 
    | (with_reducible refine Fresh.intro fun b hb=>?_) <;> (try simp -dsimp -implicitDefEqProofs [*] at hb)
    | (with_reducible refine Rets.xcall (c1 _) ?_)
    | (simp -dsimp -implicitDefEqProofs [k50, *]))
  ·rw [decide_eq_false hz,Bool.and_false]
   refine H.q1c.pure q5n rfl rfl ?_
   repeat' (first 
    | (with_reducible refine Fresh.intro fun b hb=>?_) <;> (try simp -dsimp -implicitDefEqProofs [*] at hb)
    | (with_reducible refine Rets.xcall (c1 _) ?_)
    | (simp -dsimp -implicitDefEqProofs [k50, *]))
 by_cases h2:n.kind=2
 ·have ef:q5q n=(q7r n.dec && decide (n.ev=zeroE)):=by unfold q5q; rw [if_neg h1,decide_eq_true h2,Bool.true_and]
  rw [ef]
  clear ef c1
  by_cases hz:n.ev=zeroE
  ·have e:(q7r n.dec && decide (n.ev=zeroE))=decide (E2=0):=by
    rw [decide_eq_true hz,Bool.and_true,Bool.eq_iff_iff,decide_eq_true_eq]
    exact k2.symm
   rw [e]
   clear e k2
   have hs:=n.subEv
   rw [hz] at hs
   refine H.q1c.pure q5n rfl rfl ?_
   repeat' (first 
    | (with_reducible refine Fresh.intro fun b hb=>?_) <;> (try simp -dsimp -implicitDefEqProofs [*] at hb)
    | (with_reducible refine Rets.xcall (c2 _) ?_)
    | (with_reducible refine Lit.imm ?_)
    | (simp -dsimp -implicitDefEqProofs [q76, *]))
  ·rw [decide_eq_false hz,Bool.and_false]
   clear k2
   refine H.q1c.pure q5n rfl rfl ?_
   repeat' (first 
    | (with_reducible refine Fresh.intro fun b hb=>?_) <;> (try simp -dsimp -implicitDefEqProofs [*] at hb)
    | (with_reducible refine Rets.xcall (c2 _) ?_)
    | (with_reducible refine Lit.imm ?_)
    | (simp -dsimp -implicitDefEqProofs [q76, *]))
 ·have ef:q5q n=false:=by unfold q5q; rw [if_neg h1,decide_eq_false h2]; rfl
  rw [ef]
  clear ef k2 c1 c2
  refine H.q1c.pure q5n rfl rfl ?_
  repeat' (first 
   | (with_reducible refine Fresh.intro fun b hb=>?_) <;> (try simp -dsimp -implicitDefEqProofs [*] at hb)
   | (simp -dsimp -implicitDefEqProofs [*]))
theorem k9v (l:List Note)(hl:l.length<=100000)(r:Bool)(hr:r=true ↔ Rise q6p okN l/\l.length<=4096)(st:q5f):Rets P F.q3l [.agg [Note.lst false l]] st (.bool r):=by
 have hno:Hid (¬ Rise q6p okN l->r=false):=⟨fun h=>by
  rw [<-Bool.not_eq_true]
  exact fun h2=>h (hr.1 h2).1⟩
 have hye:Hid (Rise q6p okN l->r=decide ((l.length:Int)<=4096)):=⟨fun h=>by
  rw [Bool.eq_iff_iff,hr,decide_eq_true_eq]
  exact⟨fun h2=>by omega,fun h2=>⟨h,by omega⟩⟩⟩
 clear hr
 refine H.q3l.view q5n rfl rfl ?_
 repeat' (first 
  | (with_reducible refine Fresh.intro fun b hb=>?_) <;> (try simp -dsimp -implicitDefEqProofs [*] at hb)
  | (simp -dsimp -implicitDefEqProofs [*]))
 refine q5h (fun i:Nat=>[(1,.ptr b 0),(3,.int (i:Nat))]) (fun _=>(b,.arr T.apiPeer [Note.lst false l])::st) (fun i=>i<=l.length/\Hid (Rise q6p okN (l.take i))) (fun i=>l.length-i) 0 ⟨Nat.zero_le _,⟨.nil⟩⟩ (by simp) (.refl _) ?_
 rintro i ⟨hi,hI⟩
 by_cases hil:i<l.length
 case neg=>
  obtain rfl:i=l.length:=by omega
  have hR:=hI.out
  rw [List.take_length] at hR
  have e:=hye.out hR
  rw [e]
  clear hR e hye hno hI
  repeat' (simp -dsimp -implicitDefEqProofs [*])
  all_goals exact RetView.drop (st':=st) q5o ⟨rfl,rfl⟩
 have hwi:=q5i (n:=i) (by omega)
 have hs:=Note.row_sub l i hil
 have hrl:=Note.row_len l
 have f:=fun st=>k0z l[i] st
 cases hf:q5q l[i] with
 | false=>
  rw [hf] at f
  have e:=hno.out fun h=>by
   have:=h.1 _ (List.getElem_mem hil)
   unfold okN at this
   rw [hf] at this
   cases this
  subst e
  clear hye hno hI hf
  generalize l[i]=x at *
  repeat' (first 
   | (with_reducible refine Rets.xcall (f _) ?_)
   | (with_reducible refine DrawLate.intro [] ?_)
   | (simp -dsimp -implicitDefEqProofs [*]))
  all_goals exact RetView.drop (st':=st) q5o ⟨rfl,rfl⟩
 | true=>
  rw [hf] at f
  by_cases h0:i=0
  ·subst h0
   have e:=Hid.mk (k51 hil hI.out hf (fun h=>absurd h (Nat.lt_irrefl 0)))
   clear hye hf hI
   have hw0:IntKind.i64.wrap 1=1:=rfl
   generalize l[0]=x at *
   repeat' (first 
    | (with_reducible refine Rets.xcall (f _) ?_)
    | (with_reducible refine DrawLate.intro [] ?_)
    | (simp -dsimp -implicitDefEqProofs [*]))
   all_goals exact Next.intro 1 ⟨by omega,e⟩ (by omega) (by simp) q5o
  ·have hi1:i-1<l.length:=by omega
   have hw1:IntKind.i64.wrap ((i:Int)-1)=((i-1:Nat):Int):=by rw [q5l (by omega) (by omega)]; omega
   have hp:0<i:=by omega
   have hs1:=Note.row_sub l (i-1) hi1
   have hf1:q5q l[i-1]=true:=hI.out.1 _ (by
    have h2:i-1<(l.take i).length:=by rw [List.length_take]; omega
    have:=List.getElem_mem h2
    rwa [List.getElem_take] at this)
   have c:=fun st=>k41 l[i-1] l[i] hf1 hf st
   by_cases hc:q6p l[i-1] l[i]<0
   ·have e:=Hid.mk (k51 hil hI.out hf (fun _ _=>hc))
    have hc2:¬ 0<=q6p l[i-1] l[i]:=by omega
    clear hye hno hf hf1 hI
    generalize q6p l[i-1] l[i]=n at *
    generalize l[i-1]=y at *
    generalize l[i]=x at *
    repeat' (first 
     | (with_reducible refine Rets.xcall (f _) ?_)
     | (with_reducible refine Rets.xcall (c _) ?_)
     | (with_reducible refine DrawLate.intro [] ?_)
     | (simp -dsimp -implicitDefEqProofs [*]))
    all_goals exact Next.intro (i+1) ⟨by omega,e⟩ (by omega) (by simp) q5o
   ·have e:=hno.out fun h=>hc (j5t h (by omega) hil)
    have hc2:0<=q6p l[i-1] l[i]:=by omega
    subst e
    clear hye hno hf hf1 hI
    generalize q6p l[i-1] l[i]=n at *
    generalize l[i-1]=y at *
    generalize l[i]=x at *
    repeat' (first 
     | (with_reducible refine Rets.xcall (f _) ?_)
     | (with_reducible refine Rets.xcall (c _) ?_)
     | (with_reducible refine DrawLate.intro [] ?_)
     | (simp -dsimp -implicitDefEqProofs [*]))
    all_goals exact RetView.drop (st':=st) q5o ⟨rfl,rfl⟩
open Go.Pv Go.Pv.Cd
set_option maxRecDepth 100000
set_option maxHeartbeats 8000000
theorem j51 (t:Bool)(e:Event)(st:q5f):Rets P F.q3w [.list t (q7z e.ints) 9] st e.pv:=by
 have hr:q7z e.ints=[.int e.no,.int e.kind,.int e.round,.int e.entry,.int e.judge,.int e.item,.int e.value,.int e.at',.int e.known]:=rfl
 rw [hr]
 refine H.q3w.view q5n rfl rfl ?_
 repeat' (first 
  | (with_reducible refine Fresh.intro fun b hb=>?_) <;> (try simp -dsimp -implicitDefEqProofs [*] at hb)
  | (simp -dsimp -implicitDefEqProofs [*]))
 exact RetView.drop (st':=st) q5o ⟨rfl,rfl⟩
abbrev z24:List PV:=[.int 0,.int 0,.int 0,.int 0,.int 0,.int 0,.int 0,.int 0,.int 0,.int 0,.int 0,.int 0,.int 0,.int 0,.int 0,.int 0,.int 0,.int 0,.int 0,.int 0,.int 0,.int 0,.int 0,.int 0]
theorem y2z (n:Note):q5j (q5j [.int n.kind,.int 0,.int 0,.int 0,.int 0,.int 0,.int 0,.int 0,.int 0,.int 0,.int 0,.int 0,.int 0,.int 0,.int 0,.int 0,.int 0,.int 0,.int 0,.int 0,.int 0,.int 0,.int 0,.int 0] 1 n.ev.enc) 10 (q5j [.int n.dec.no,.int n.dec.known,.int n.dec.kind,.int n.dec.target,.int n.dec.value,.int 0,.int 0,.int 0,.int 0,.int 0,.int 0,.int 0,.int 0,.int 0] 5 n.dec.event.enc)=n.enc:=by
 simp only [Event.enc,Note.enc,Decision.enc,Decision.event,q5j,List.set_cons_succ,List.set_cons_zero,List.cons_append,List.nil_append]
structure RdJ (l:List Vl)(i:Nat)(k:List Int):Prop where
 len:k.length=i
 is:q85 l=(q85 (l.drop i)).map (k++·)
theorem RdJ.zero (l:List Vl):RdJ l 0 []:=⟨rfl,by
 rw [List.drop_zero]
 cases q85 l with
 | none=>rfl
 | some k=>rfl⟩
theorem RdJ.bad {l:List Vl}{i:Nat}{k:List Int}(h:RdJ l i k)(hi:i<l.length)(hk:¬ z9a l[i]=1):q85 l=none:=by
 rw [h.is,<-List.getElem_cons_drop hi]
 cases e:l[i] with
 | int n=>rw [e] at hk; exact absurd rfl hk
 | text s=>rfl
 | list s=>rfl
theorem RdJ.next {l:List Vl}{i:Nat}{k:List Int}(h:RdJ l i k)(hi:i<l.length)(hk:z9a l[i]=1):RdJ l (i+1) (k++[j5s l[i]]):=by
 refine⟨by rw [List.length_append,h.len]; rfl, ?_⟩
 rw [h.is,<-List.getElem_cons_drop hi]
 cases e:l[i] with
 | int n=>
  rw [q85]
  cases q85 (l.drop (i+1)) with
  | none=>rfl
  | some k=>simp [j5s]
 | text s=>rw [e] at hk; exact absurd hk (show ¬ (2:Int)=1 by decide)
 | list s=>rw [e] at hk; exact absurd hk (show ¬ (3:Int)=1 by decide)
theorem RdJ.done {l:List Vl}{k:List Int}(h:RdJ l 24 k)(hl:l.length=24):q85 l=some k:=by
 rw [h.is,List.drop_eq_nil_of_le (by omega)]
 simp [q85]
theorem k7t (L:List (BitVec 8))(hL:L.length<=1000)(st:q5f):PCalls P F.q1r [q53 false L] st (ReadP L st):=by
 have dc:=fun st=>z0o L hL st
 unfold j1a j1b at dc
 cases hd:Go.Pv.Cd.decode L with
 | none=>
  rw [hd] at dc
  simp only at dc
  have e:=Hid.mk (ReadP.no (L:=L) (st:=st) (by unfold q8f; rw [hd]) (q8e []))
  clear hd
  refine H.q1r.view q5n rfl rfl ?_
  repeat' (first 
   | (with_reducible refine Fresh.intro fun b hb=>?_) <;> (try simp -dsimp -implicitDefEqProofs [*] at hb)
   | (with_reducible refine Rets.xcall (dc _) ?_)
   | (simp -dsimp -implicitDefEqProofs [*]))
  exact RetView.drop (st':=st) q5o e.out
 | some v=>
  rw [hd] at dc
  simp only at dc
  cases v with
  | int n=>
   have e:=Hid.mk (ReadP.no (L:=L) (st:=st) (by unfold q8f; rw [hd]) (q8e []))
   clear hd
   simp only [q6t] at dc
   refine H.q1r.view q5n rfl rfl ?_
   repeat' (first 
    | (with_reducible refine Fresh.intro fun b hb=>?_) <;> (try simp -dsimp -implicitDefEqProofs [*] at hb)
    | (with_reducible refine Rets.xcall (dc _) ?_)
    | (simp -dsimp -implicitDefEqProofs [*]))
   exact RetView.drop (st':=st) q5o e.out
  | text s=>
   have e:=Hid.mk (ReadP.no (L:=L) (st:=st) (by unfold q8f; rw [hd]) (q8e []))
   clear hd
   simp only [q6t] at dc
   refine H.q1r.view q5n rfl rfl ?_
   repeat' (first 
    | (with_reducible refine Fresh.intro fun b hb=>?_) <;> (try simp -dsimp -implicitDefEqProofs [*] at hb)
    | (with_reducible refine Rets.xcall (dc _) ?_)
    | (simp -dsimp -implicitDefEqProofs [*]))
   exact RetView.drop (st':=st) q5o e.out
  | list l=>
   simp only [q6t] at dc
   by_cases hl:l.length=24
   case neg=>
    have e:=Hid.mk (ReadP.no (L:=L) (st:=st) (by
     unfold q8f
     rw [hd]
     simp only
     cases e:q85 l with
     | none=>rfl
     | some k=>
      simp only
      rw [if_neg]
      rintro⟨h1, -⟩
      have:=congrArg List.length (k5w e)
      rw [List.length_map] at this
      omega) (q8e []))
    have hl2:¬ (l.length:Int)=24:=by omega
    clear hd
    refine H.q1r.view q5n rfl rfl ?_
    repeat' (first 
     | (with_reducible refine Fresh.intro fun b hb=>?_) <;> (try simp -dsimp -implicitDefEqProofs [*] at hb)
     | (with_reducible refine Rets.xcall (dc _) ?_)
     | (simp -dsimp -implicitDefEqProofs [*]))
    exact RetView.drop (st':=st) q5o e.out
   have e0:=Hid.mk (RdJ.zero l)
   replace hd:=Hid.mk hd
   have hrl:=k5z l
   refine H.q1r.view q5n rfl rfl ?_
   repeat' (first 
    | (with_reducible refine Fresh.intro fun b hb=>?_) <;> (try simp -dsimp -implicitDefEqProofs [*] at hb)
    | (with_reducible refine Rets.xcall (dc _) ?_)
    | (with_reducible refine Lit.own (cs:=[]) (len:=0) fun b hb=>?_) <;> (try simp -dsimp -implicitDefEqProofs [*] at hb)
    | (simp -dsimp -implicitDefEqProofs [*]))
   revert b; intro ab hab
   rename_i q hq
   refine j8a (fun y:Nat × Acc Int=>[(2,.ptr q 0),(3,.bool false),(4,.ptr b 0),(6,.own y.2.b 0 y.2.l.length y.2.cap),(7,.int (y.1:Nat))])
    (fun y=>(y.2.b,.arr T.int y.2.R)::(b,.arr T.apiValue [.int 3,.int 0,q64,.list false (q81 l) 24])::(q,.arr T.apiNote z24)::st)
    (fun y=>y.1<=24/\y.2.Ok q7z 1/\q54 ((b,.arr T.apiValue [.int 3,.int 0,q64,.list false (q81 l) 24])::(q,.arr T.apiNote z24)::st) y.2.b/\Hid (RdJ l y.1 y.2.l)) (fun y=>24-y.1) (fun y=>y.1=24)
    (fun y=>[(2,.ptr q 0),(3,.bool false),(4,.ptr b 0),(6,.list false (q7z y.2.l) y.2.l.length),(7,.int (y.1:Nat))]) (fun _=>(b,.arr T.apiValue [.int 3,.int 0,q64,.list false (q81 l) 24])::(q,.arr T.apiNote z24)::st)
    (fun y hy _=>View.acc (a:=some y.2) (row:=q7z) (k:=1) (T:=T.int) rfl ⟨hy.2.1,hy.2.2.1⟩ (.refl _) (by simp)) (0,⟨[],ab,0,[]⟩)
    ⟨Nat.zero_le _,.nil rfl _,by simp [*],e0⟩ (by simp) (.refl _) ?_ ?_
   ·clear e0 dc
    rintro⟨i,a⟩ ⟨_,_,_,hI⟩ hi24
    replace hi24:i=24:=hi24
    replace hI:Hid (RdJ l i a.l):=hI
    subst hi24
    simp only
    obtain⟨A,ab,cap,C⟩:=a
    simp only at hI ⊢
    have hk:=hI.out.done hl
    have hX:A.length=24:=hI.out.len
    obtain⟨n,hn⟩:∃ n,n=q8e A:=⟨_,rfl⟩
    have hA:A=n.ints:=by rw [hn,k4x hX]
    rw [hA]
    have fm:=fun st=>k0z n st
    have e:Hid (ReadP L st (.ret (.tuple [n.pv,.bool (q5q n)])) st):=⟨n,_,rfl,rfl,by
     unfold q8f
     rw [hd.out]
     simp only
     rw [hk]
     simp only
     by_cases hf:q5q n=true
     ·rw [if_pos ⟨hX,by rw [<-hn]; exact hf⟩]
      exact⟨hf,hn⟩
     ·rw [if_neg fun h=>hf (by rw [hn]; exact h.2)]
      simpa using hf⟩
    have o1:=fun st=>j51 false n.ev st
    have o2:=fun st=>j51 false n.dec.event st
    clear hk hd hI hA hn hX
    have hr:q7z n.ints=[.int n.kind,.int n.ev.no,.int n.ev.kind,.int n.ev.round,.int n.ev.entry,.int n.ev.judge,.int n.ev.item,.int n.ev.value,.int n.ev.at',.int n.ev.known,.int n.dec.no,.int n.dec.known,.int n.dec.kind,.int n.dec.target,.int n.dec.value,.int n.dec.eno,.int n.dec.ekind,.int n.dec.eround,.int n.dec.eentry,.int n.dec.ejudge,.int n.dec.eitem,.int n.dec.evalue,.int n.dec.eat,.int n.dec.eknown]:=rfl
    have hr1:q7z n.ev.ints=[.int n.ev.no,.int n.ev.kind,.int n.ev.round,.int n.ev.entry,.int n.ev.judge,.int n.ev.item,.int n.ev.value,.int n.ev.at',.int n.ev.known]:=rfl
    have hr2:q7z n.dec.event.ints=[.int n.dec.eno,.int n.dec.ekind,.int n.dec.eround,.int n.dec.eentry,.int n.dec.ejudge,.int n.dec.eitem,.int n.dec.evalue,.int n.dec.eat,.int n.dec.eknown]:=rfl
    rw [hr1] at o1
    rw [hr2] at o2
    rw [hr]
    have hle:n.ints.length=24:=rfl
    rw [hle]
    clear hr hr1 hr2 hle
    have hs:=y2z n
    repeat' (first 
     | (with_reducible refine Fresh.intro fun b hb=>?_) <;> (try simp -dsimp -implicitDefEqProofs [*] at hb)
     | (with_reducible refine q56 (fun _=>o1 _) ?_)
     | (with_reducible refine Rets.xcall (o2 _) ?_)
     | (with_reducible refine Rets.xcall (fm _) ?_)
     | (with_reducible refine DrawLate.intro [] ?_)
     | (with_reducible refine q6f ?_ ?_)
     | (with_reducible exact Cls.self _ _)
     | (with_reducible refine q6i ?_ ?_)
     | (simp -dsimp -implicitDefEqProofs [*]))
    exact RetView.drop (st':=st) q5o e.out
   clear e0 dc
   rintro⟨i,a⟩ ⟨hi,ha,hb2,hI⟩ hi24
   replace hi24:¬ i=24:=hi24
   replace hi:i<=24:=hi
   replace ha:a.Ok q7z 1:=ha
   replace hb2:q54 ((b,.arr T.apiValue [.int 3,.int 0,q64,.list false (q81 l) 24])::(q,.arr T.apiNote z24)::st) a.b:=hb2
   replace hI:Hid (RdJ l i a.l):=hI
   simp only
   simp only [q54] at hb2
   have hil:i<24:=by omega
   have hil2:i<l.length:=by omega
   have hal:a.l.length<=24:=by rw [hI.out.len]; exact hi
   have k1:=z10 l i hil2
   have K1:=q6v k1
   have n1:=z6l l i hil2
   have N1:=q6v n1
   have hwi:=q5i (n:=i) (by omega)
   by_cases hkd:z9a l[i]=1
   case neg=>
    have e:=Hid.mk (ReadP.no (L:=L) (st:=st) (by unfold q8f; rw [hd.out]; simp only; rw [hI.out.bad hil2 hkd]) (q8e []))
    clear hd hI
    repeat' (first 
     | (with_reducible refine And.intro (fun h=>?_) (fun h=>?_)) <;> (try (exfalso; omega))
     | ((with_reducible refine q5v ?_ fun hk=>?_); omega)
     | (simp -dsimp -implicitDefEqProofs [*]))
    exact RetView.drop (st':=st) q5o e.out
   have hn:=Hid.mk (hI.out.next hil2 hkd)
   rw [hkd] at k1
   simp only [hkd] at K1
   obtain⟨x,hx⟩:∃ x,x=j5s l[i]:=⟨_,rfl⟩
   rw [<-hx] at n1 hn
   simp only [<-hx] at N1
   clear hx hkd hd hI
   repeat' (first 
    | (with_reducible refine Lit.imm ?_)
    | (with_reducible refine And.intro (fun h=>?_) (fun h=>?_)) <;> (try (exfalso; omega))
    | ((with_reducible refine q5v ?_ fun hk=>?_); omega)
    | (simp -dsimp -implicitDefEqProofs [-q5g, *]))
   refine q8l (bytes:=8) k3s q95 ha (by simp) [x] rfl rfl (by omega) fun a' ha' hl' hb3=>?_
   have kl:Hid (a'.l=a.l++[x]):=⟨hl'⟩
   clear hl'
   repeat' (simp -dsimp -implicitDefEqProofs [*])
   refine NextF.intro (fun y hy _=>View.acc (a:=some y.2) (row:=q7z) (k:=1) (T:=T.int) rfl ⟨hy.2.1,hy.2.2.1⟩ (.refl _) (by simp)) (i+1,a') ⟨by simp only; omega,ha',by simpa [*] using hb3,⟨?_⟩⟩ (by simp only; omega) (by simp) (.refl _)
   show RdJ l (i+1) a'.l
   rw [kl.out]
   exact hn.out
open Go.Pv
set_option maxRecDepth 100000
set_option maxHeartbeats 8000000
structure Lk where
 a:Int
 b:Int
 deriving DecidableEq
instance:Inhabited Lk:=⟨⟨0,0⟩⟩
def Lk.enc (x:Lk):List PV:=[.int x.a,.int x.b]
@[simp] theorem Lk.len (x:Lk):x.enc.length=2:=rfl
@[simp] theorem Lk.subAll (x:Lk):sub x.enc 0 2=some x.enc:=rfl
def Lk.row (l:List Lk):List PV:=l.flatMap Lk.enc
abbrev Lk.lst (t:Bool)(l:List Lk):PV:=.list t (Lk.row l) l.length
theorem Lk.row_len (l:List Lk):(Lk.row l).length=l.length*2:=q6h Lk.enc 2 Lk.len l
theorem Lk.row_sub (l:List Lk)(i:Nat)(h:i<l.length):sub (Lk.row l) (i*2) 2=some (l[i]).enc:=q8v Lk.enc 2 Lk.len l i h
abbrev q9z (q:List Pk)(ap:List Lk):PV:=.agg [Pk.lst false q,Lk.lst false ap]
def z4g (x y:Lk):Int:=if x.a=y.a then z0j x.b y.b else z0j x.a y.a
theorem z6u {a b:Int}:z0j a b=0 ↔ a=b:=by unfold z0j; split <;> (try split) <;> omega
theorem z6v (t:Bool)(x y:Lk)(b0:Nat)(st:q5f)(hb0:q54 st b0):Does P F.q17 [.list t x.enc 2,.own b0 0 2 2] ((b0,.arr T.t2int y.enc)::st) (.int (z4g x y)) ((b0,.arr T.t2int y.enc)::st):=by
 obtain⟨a,b⟩:=x
 obtain⟨c,d⟩:=y
 unfold Lk.enc
 simp only
 have c1:=fun st=>k8b a c st
 have c2:=fun st=>k8b b d st
 have z1:=z6u (a:=a) (b:=c)
 have z2:=z6u (a:=b) (b:=d)
 have hr:z4g ⟨a,b⟩ ⟨c,d⟩=if a=c then z0j b d else z0j a c:=rfl
 rw [hr]
 clear hr
 generalize z0j a c=k1 at *
 generalize z0j b d=k2 at *
 replace z1:=Hid.mk z1
 have hR:∃ R,R=if a=c then k2 else k1:=⟨_,rfl⟩
 obtain⟨R,hR⟩:=hR
 rw [<-hR]
 have r1:Hid (¬ k1=0->R=k1):=⟨fun h=>by rw [hR,if_neg fun e=>h (z1.out.2 e)]⟩
 have r2:Hid (k1=0->R=k2):=⟨fun h=>by rw [hR,if_pos (z1.out.1 h)]⟩
 clear hR z1 z2
 refine H.q17.view q5n rfl rfl ?_
 repeat' (simp -dsimp -implicitDefEqProofs [*])
 refine q5h (fun i:Nat=>[(0,.list t [.int a,.int b] 2),(1,.own b0 0 2 2),(9,.list t [.int a,.int b] 2),(10,.int 2),(11,.int i)]) (fun _=>(b0,.arr T.t2int [.int c,.int d])::st) (fun i=>i<=2/\(0<i->k1=0)/\(1<i->k2=0)) (fun i=>2-i) 0 ⟨by omega,by omega,by omega⟩ (by simp) (.refl _) ?_
 rintro i ⟨hi,h1,h2⟩
 have w1:IntKind.i64.wrap 1=1:=rfl
 have w2:IntKind.i64.wrap 2=2:=rfl
 rcases (by omega:i=0\/i=1\/i=2) with rfl | rfl | rfl
 ·clear h1 h2
  by_cases hk:k1=0
  ·clear r1 r2
   repeat' (first 
    | (with_reducible refine Rets.xcall (c1 _) ?_)
    | (simp -dsimp -implicitDefEqProofs [*]))
   exact Next.intro 1 ⟨by omega,fun _=>hk,by omega⟩ (by omega) (by simp) q5o
  ·have e:=r1.out hk
   clear r1 r2
   repeat' (first 
    | (with_reducible refine Rets.xcall (c1 _) ?_)
    | (simp -dsimp -implicitDefEqProofs [*]))
   exact .same ⟨rfl,rfl⟩
 ·have hk:=h1 (by omega)
  have e:=r2.out hk
  clear h1 h2 r1 r2
  by_cases hk2:k2=0
  ·repeat' (first 
    | (with_reducible refine Rets.xcall (c2 _) ?_)
    | (simp -dsimp -implicitDefEqProofs [*]))
   exact Next.intro 2 ⟨by omega,fun _=>hk,fun _=>hk2⟩ (by omega) (by simp) q5o
  ·repeat' (first 
    | (with_reducible refine Rets.xcall (c2 _) ?_)
    | (simp -dsimp -implicitDefEqProofs [*]))
   exact .same ⟨rfl,rfl⟩
 ·have e:=r2.out (h1 (by omega))
  have hk2:=h2 (by omega)
  clear h1 h2 r1 r2
  repeat' (simp -dsimp -implicitDefEqProofs [*])
  exact .same ⟨rfl,rfl⟩
def z3z (q:List Pk):Prop:=∀ p ∈ q,pkB p=true
def v13 (q:List Pk)(st:q5f)(e:PEnd)(s:q5f):Prop:=∃ n:Int,e=.ret (.int n)/\s=st/\(0<=n ↔ ¬ z3z q)
theorem y7x (q:List Pk)(hl:q.length<=100000)(st:q5f):PCalls P F.q01 [Pk.lst false q,.func (.func F.q2s) [] []] st (v13 q st):=by
 have yes:=Hid.mk fun (n:Int) (h0:0<=n) (h:¬ z3z q)=>(⟨n,rfl,rfl,fun _=>h,fun _=>h0⟩:v13 q st (.ret (.int n)) st)
 have no:=Hid.mk fun (h:z3z q)=>(⟨-1,rfl,rfl,fun h=>by omega,fun h2=>absurd h h2⟩:v13 q st (.ret (.int (-1))) st)
 refine H.q01.view q5n rfl rfl ?_
 have hr:=Pk.row_len q
 repeat' (simp -dsimp -implicitDefEqProofs [*])
 refine q5h (fun i:Nat=>[(8,.int i),(7,.int q.length),(4,.int 0),(0,Pk.lst false q),(1,.func (.func F.q2s) [] [])]) (fun _=>st) (fun i=>i<=q.length/\Hid (∀ p ∈ q.take i,pkB p=true)) (fun i=>q.length-i) 0 ⟨Nat.zero_le _,⟨fun _ h=>by cases h⟩⟩ (by simp) (.refl _) ?_
 rintro i ⟨hi,hI⟩
 by_cases hil:i<q.length
 ·have hwi:=q5i (n:=i) (by omega)
  have c:=fun st=>z9c q[i] st
  have hs:=Pk.row_sub q i hil
  have hm:=List.getElem_mem hil
  have tk:q.take (i+1)=q.take i++[q[i]]:=List.take_succ_eq_append_getElem hil
  cases hp:pkB q[i] with
  | false=>
   rw [hp] at c
   have e:=yes.out i (by omega) (fun h=>by have:=h _ hm; rw [hp] at this; cases this)
   clear yes no hI hp hm tk
   generalize q[i]=x at *
   repeat' (first 
    | (with_reducible refine Rets.xcall (c _) ?_)
    | (simp -dsimp -implicitDefEqProofs [*]))
   exact .same e
  | true=>
   rw [hp] at c
   have hn:Hid (∀ p ∈ q.take (i+1),pkB p=true):=⟨fun p h=>by
    rw [tk] at h
    rcases List.mem_append.1 h with h | h
    ·exact hI.out p h
    ·rw [List.mem_singleton] at h
     rw [h,hp]⟩
   clear yes no hI hp hm tk
   generalize q[i]=x at *
   repeat' (first 
    | (with_reducible refine Rets.xcall (c _) ?_)
    | (simp -dsimp -implicitDefEqProofs [*]))
   exact Next.intro (i+1) ⟨by omega,hn⟩ (by omega) (by simp) q5o
 ·obtain rfl:i=q.length:=by omega
  rw [List.take_length] at hI
  have e:=no.out hI.out
  clear yes no hI
  repeat' (simp -dsimp -implicitDefEqProofs [*])
  exact .same e
theorem z6w (q:List Pk)(hl:q.length<=100000)(r:Bool)(hr:r=true ↔ z3z q)(st:q5f):Rets P F.q0w [Pk.lst false q,.func (.func F.q2s) [] []] st (.bool (!r)):=by
 have c:=fun st=>y7x q hl st
 replace hr:=Hid.mk hr
 refine H.q0w.view q5n rfl rfl ?_
 repeat' (simp -dsimp -implicitDefEqProofs [*])
 refine q5k (c _) ?_
 clear c
 rintro e s ⟨n,rfl,rfl,hn⟩
 rw [q5x]
 have e:(!r)=decide (0<=n):=by
  rw [Bool.eq_iff_iff,decide_eq_true_eq,hn,<-hr.out]
  cases r <;> simp
 rw [e]
 clear e hr hn
 repeat' (simp -dsimp -implicitDefEqProofs [*])
 all_goals exact .same ⟨rfl,rfl⟩
def j68 (ap:List Lk)(n:Nat):Prop:=∀ i (h:i<ap.length),i<n->k33 ap[i].a ap[i].b=true/\∀ h0:0<i,z4g (ap[i-1]'(by omega)) ap[i]<0
def q8o (q:List Pk)(ap:List Lk):Prop:=q.length<=4096/\z3z q/\j68 ap ap.length
theorem k0k (q:List Pk)(hl:q.length<=100000)(ap:List Lk)(hap:ap.length<=100000)(r:Bool)(hr:r=true ↔ q8o q ap)(st:q5f):Rets P F.q3r [q9z q ap] st (.int (if r=true then 0 else 60)):=by
 have hR:∃ R:Int,R=if r=true then 0 else 60:=⟨_,rfl⟩
 obtain⟨R,hR⟩:=hR
 have no:Hid (¬ q8o q ap->R=60):=⟨fun h=>by rw [hR,if_neg fun e=>h (hr.1 e)]⟩
 have yes:Hid (q8o q ap->R=0):=⟨fun h=>by rw [hR,if_pos (hr.2 h)]⟩
 rw [<-hR]
 clear hR hr
 refine H.q3r.view q5n rfl rfl ?_
 by_cases h1:(4096:Int)<q.length
 ·have e:=no.out fun h=>by have:=h.1; omega
  clear no yes
  subst e
  repeat' (first 
   | (with_reducible refine Fresh.intro fun b hb=>?_) <;> (try simp -dsimp -implicitDefEqProofs [*] at hb)
   | (simp -dsimp -implicitDefEqProofs [*]))
  exact .drop (st':=st) q5o ⟨rfl,rfl⟩
 by_cases hq:z3z q
 case neg=>
  have c:=fun st=>z6w q hl false ⟨(fun h=>by cases h),fun h=>absurd h hq⟩ st
  have e:=no.out fun h=>hq h.2.1
  clear no yes
  subst e
  repeat' (first 
   | (with_reducible refine Fresh.intro fun b hb=>?_) <;> (try simp -dsimp -implicitDefEqProofs [*] at hb)
   | (with_reducible refine Rets.xcall (c _) ?_)
   | (simp -dsimp -implicitDefEqProofs [*]))
  exact .drop (st':=st) q5o ⟨rfl,rfl⟩
 have c:=fun st=>z6w q hl true ⟨fun _=>hq,fun _=>rfl⟩ st
 have yes2:=Hid.mk fun h=>yes.out ⟨by omega,hq,h⟩
 have no2:Hid (¬ j68 ap ap.length->R=60):=⟨fun h=>no.out fun h2=>h h2.2.2⟩
 clear yes no hq
 have har:=Lk.row_len ap
 repeat' (first 
  | (with_reducible refine Fresh.intro fun b hb=>?_) <;> (try simp -dsimp -implicitDefEqProofs [*] at hb)
  | (with_reducible refine Rets.xcall (c _) ?_)
  | (simp -dsimp -implicitDefEqProofs [*]))
 clear c
 refine q5h (fun i:Nat=>[(1,.ptr b 0),(15,Lk.lst false ap),(16,.int ap.length),(17,.int i)]) (fun _=>(b,.arr T.apiNet [Pk.lst false q,Lk.lst false ap])::st) (fun i=>i<=ap.length/\Hid (j68 ap i)) (fun i=>ap.length-i) 0 ⟨Nat.zero_le _,⟨fun _ _ h=>by omega⟩⟩ (by simp) (.refl _) ?_
 rintro i ⟨hi,hI⟩
 by_cases hil:i<ap.length
 case neg=>
  obtain rfl:i=ap.length:=by omega
  have e:=yes2.out hI.out
  clear yes2 no2 hI
  subst e
  repeat' (simp -dsimp -implicitDefEqProofs [*])
  exact .drop (st':=st) q5o ⟨rfl,rfl⟩
 have hwi:=q5i (n:=i) (by omega)
 have hs:=Lk.row_sub ap i hil
 have lk:=fun st=>k9s ap[i].a ap[i].b st
 have hsub:sub (Lk.row ap) (i*2) 2=some [.int ap[i].a,.int ap[i].b]:=hs
 have hbad:Hid (∀ h:¬ (k33 ap[i].a ap[i].b=true/\∀ h0:0<i,z4g (ap[i-1]'(by omega)) ap[i]<0),R=60):=⟨fun h=>no2.out fun h2=>h (h2 i hil hil)⟩
 have hgo:Hid (k33 ap[i].a ap[i].b=true->(∀ h0:0<i,z4g (ap[i-1]'(by omega)) ap[i]<0)->j68 ap (i+1)):=⟨fun k1 k2 j hj hji=>by
  by_cases e:j=i
  ·subst e; exact⟨k1,k2⟩
  ·exact hI.out j hj (by omega)⟩
 clear yes2 no2 hI hs
 cases hv:k33 ap[i].a ap[i].b with
 | false=>
  rw [hv] at lk
  have e:=hbad.out fun h=>by rw [hv] at h; cases h.1
  clear hbad hgo hv
  subst e
  generalize ap[i]=x at *
  repeat' (first 
   | (with_reducible refine Fresh.intro fun b hb=>?_) <;> (try simp -dsimp -implicitDefEqProofs [*] at hb)
   | (with_reducible refine Rets.xcall (lk _) ?_)
   | (with_reducible refine DrawLate.intro [] ?_)
   | (simp -dsimp -implicitDefEqProofs [*]))
  exact .drop (st':=st) q5o ⟨rfl,rfl⟩
 | true=>
 rw [hv] at lk
 by_cases h0:i=0
 ·subst h0
  have hn:=Hid.mk (hgo.out hv (fun h=>absurd h (Nat.lt_irrefl 0)))
  clear hbad hgo hv
  generalize ap[0]=x at *
  have hw1:IntKind.i64.wrap 1=1:=rfl
  repeat' (first 
   | (with_reducible refine Fresh.intro fun b hb=>?_) <;> (try simp -dsimp -implicitDefEqProofs [*] at hb)
   | (with_reducible refine Rets.xcall (lk _) ?_)
   | (with_reducible refine DrawLate.intro [] ?_)
   | (simp -dsimp -implicitDefEqProofs [*]))
  exact Next.intro 1 ⟨by omega,hn⟩ (by omega) (by simp) q5o
 have hp:0<i:=by omega
 have hi1:i-1<ap.length:=by omega
 have hw1:IntKind.i64.wrap ((i:Int)-1)=((i-1:Nat):Int):=by rw [q5l (by omega) (by omega)]; omega
 have hs1:sub (Lk.row ap) ((i-1)*2) 2=some [.int ap[i-1].a,.int ap[i-1].b]:=Lk.row_sub ap (i-1) hi1
 have hb2:Hid (¬ z4g ap[i-1] ap[i]<0->R=60):=⟨fun h=>hbad.out fun h2=>h (h2.2 hp)⟩
 have hg2:Hid (z4g ap[i-1] ap[i]<0->j68 ap (i+1)):=⟨fun h=>hgo.out hv fun _=>h⟩
 have cm:=fun b st hb=>z6v true ap[i-1] ap[i] b st hb
 clear hbad hgo hv
 generalize ap[i]=y at *
 generalize ap[i-1]=x at *
 simp only [Lk.enc] at cm
 have htd:List.take 2 (List.drop ((i-1)*2) (Lk.row ap))=[.int x.a,.int x.b]:=by
  unfold sub at hs1
  split at hs1
  ·exact Option.some.inj hs1
  ·cases hs1
 repeat' (first 
  | (with_reducible refine Fresh.intro fun b hb=>?_) <;> (try simp -dsimp -implicitDefEqProofs [*] at hb)
  | (with_reducible refine Rets.xcall (lk _) ?_)
  | (with_reducible refine DrawLate.intro [] ?_)
  | (simp -dsimp -implicitDefEqProofs [*]))
 rename_i nb hnb
 refine Does.xcall (cm b ((nb,.arr T.apiNet [Pk.lst false q,Lk.lst false ap])::st) hb) ?_
 clear cm
 rw [q5x]
 refine⟨Cls.self _ _, ?_⟩
 by_cases hc:z4g x y<0
 ·have hn:=Hid.mk (hg2.out hc)
  have hc2:¬ 0<=z4g x y:=by omega
  clear hg2 hb2
  generalize z4g x y=k at *
  repeat' (simp -dsimp -implicitDefEqProofs [*])
  exact Next.intro (i+1) ⟨by omega,hn⟩ (by omega) (by simp) q5o
 ·have e:=hb2.out hc
  have hc2:0<=z4g x y:=by omega
  clear hg2 hb2
  subst e
  generalize z4g x y=k at *
  repeat' (simp -dsimp -implicitDefEqProofs [*])
  exact .drop (st':=st) q5o ⟨rfl,rfl⟩
end Go.Proofs.YtmlmoaimjifpgaaGreat
