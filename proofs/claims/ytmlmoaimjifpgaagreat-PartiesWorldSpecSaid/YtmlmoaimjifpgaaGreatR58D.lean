/- The reference's comparing of contests: empty ones are the same. -/
import Derived.Test.YtmlmoaimjifpgaaGreatA58A
import Derived.Test.YtmlmoaimjifpgaaGreatK58D
import Derived.Test.YtmlmoaimjifpgaaGreatR58H
import Derived.Test.YtmlmoaimjifpgaaGreatP58C
import Derived.Test.YtmlmoaimjifpgaaGreatR58B
import Derived.Test.YtmlmoaimjifpgaaGreatY58D
namespace Go.Proofs.YtmlmoaimjifpgaaGreat
open Go.Pv Go.Pv.Cd
set_option maxRecDepth 100000
set_option maxHeartbeats 4000000
abbrev y49:List PV:=[.val (.string ⟨#[]⟩),.nil,.nil,.nil,.nil,.nil,.nil,.nil,.int 0]
abbrev j9i:List PV:=[.val (.string ⟨#[]⟩),.nil,.nil,.nil,.nil,.nil,.nil,.nil,.int 0,.nil,.nil,.nil,.val (.int .u8 0),.val (.int .u8 0),.val (.int .u8 0),.val (.int .u8 0),.val (.int .u8 0),.val (.int .u8 0),.val (.int .u8 0),.val (.int .u8 0),.val (.int .u8 0),.val (.int .u8 0),.val (.int .u8 0),.val (.int .u8 0),.val (.int .u8 0),.val (.int .u8 0),.val (.int .u8 0),.val (.int .u8 0),.val (.int .u8 0),.val (.int .u8 0),.val (.int .u8 0),.val (.int .u8 0),.val (.int .u8 0),.val (.int .u8 0),.val (.int .u8 0),.val (.int .u8 0),.val (.int .u8 0),.val (.int .u8 0),.val (.int .u8 0),.val (.int .u8 0),.val (.int .u8 0),.val (.int .u8 0),.val (.int .u8 0),.val (.int .u8 0)]
theorem z7c (st:q5c):Rets P F.q1a [.nil,.nil] st (.bool true):=by
 refine H.q1a.view q5l rfl rfl ?_
 repeat' (simp -dsimp -implicitDefEqProofs [*])
 refine q5e (fun _:Unit=>[(0,.nil),(1,.nil),(5,.int 0)]) (fun _=>st) (fun _=>True) (fun _=>0) () trivial (by simp) (.refl _) ?_
 rintro - -
 repeat' (simp -dsimp -implicitDefEqProofs [*])
 exact .same ⟨rfl,rfl⟩
theorem j3k (st:q5c):Rets P F.q1o [.nil,.nil] st (.bool true):=by
 refine H.q1o.view q5l rfl rfl ?_
 repeat' (simp -dsimp -implicitDefEqProofs [*])
 refine q5e (fun _:Unit=>[(0,.nil),(1,.nil),(5,.int 0)]) (fun _=>st) (fun _=>True) (fun _=>0) () trivial (by simp) (.refl _) ?_
 rintro - -
 repeat' (simp -dsimp -implicitDefEqProofs [*])
 exact .same ⟨rfl,rfl⟩
theorem j6w (st:q5c):Rets P F.q1y [.nil,.nil] st (.bool true):=by
 refine H.q1y.view q5l rfl rfl ?_
 repeat' (simp -dsimp -implicitDefEqProofs [*])
 refine q5e (fun _:Unit=>[(0,.nil),(1,.nil),(5,.int 0)]) (fun _=>st) (fun _=>True) (fun _=>0) () trivial (by simp) (.refl _) ?_
 rintro - -
 repeat' (simp -dsimp -implicitDefEqProofs [*])
 exact .same ⟨rfl,rfl⟩
theorem j9j (st:q5c):Rets P F.q2u [.agg y49,.agg y49] st (.bool true):=by
 refine H.q2u.view q5l rfl rfl ?_
 repeat' (first 
  | (with_reducible refine Fresh.intro fun b hb=>?_) <;> (try simp -dsimp -implicitDefEqProofs [*] at hb)
  | (with_reducible refine Rets.xcall (j3k _) ?_)
  | (with_reducible refine Rets.xcall (j6w _) ?_)
  | (simp -dsimp -implicitDefEqProofs [*]))
 rename_i b1 hb1
 revert b; intro b2 hb2
 refine q5e (fun _:Unit=>[(2,.ptr b1 0),(3,.ptr b2 0),(5,.int 0)]) (fun _=>(b2,.arr T.apiRules y49)::(b1,.arr T.apiRules y49)::st) (fun _=>True) (fun _=>0) () trivial (by simp) (.refl _) ?_
 rintro - -
 repeat' (simp -dsimp -implicitDefEqProofs [*])
 refine q5e (fun _:Unit=>[(2,.ptr b1 0),(3,.ptr b2 0),(6,.int 0)]) (fun _=>(b2,.arr T.apiRules y49)::(b1,.arr T.apiRules y49)::st) (fun _=>True) (fun _=>0) () trivial (by simp) (.refl _) ?_
 rintro - -
 repeat' (first 
  | (with_reducible refine Rets.xcall (z7c _) ?_)
  | (simp -dsimp -implicitDefEqProofs [*]))
 exact .drop (st':=st) q5m ⟨rfl,rfl⟩
theorem z7d (st:q5c):Rets P F.q0r [.agg j9i,.agg j9i] st (.bool true):=by
 refine H.q0r.view q5l rfl rfl ?_
 repeat' (first 
  | (with_reducible refine Fresh.intro fun b hb=>?_) <;> (try simp -dsimp -implicitDefEqProofs [*] at hb)
  | (with_reducible refine Rets.xcall (j9j _) ?_)
  | (with_reducible refine Rets.xcall (z7c _) ?_)
  | (simp -dsimp -implicitDefEqProofs [*]))
 rename_i b1 hb1
 revert b; intro b2 hb2
 refine q5e (fun _:Unit=>[(2,.ptr b1 0),(3,.ptr b2 0),(5,.int 0)]) (fun _=>(b2,.arr T.apiContest j9i)::(b1,.arr T.apiContest j9i)::st) (fun _=>True) (fun _=>0) () trivial (by simp) (.refl _) ?_
 rintro - -
 repeat' (simp -dsimp -implicitDefEqProofs [*])
 exact .drop (st':=st) q5m ⟨rfl,rfl⟩
theorem k7z (st:q5c):Rets P F.q0r [.agg zC.l,.agg zC.l] st (.bool true):=z7d st
open Go.Pv Go.Pv.Cd
set_option maxRecDepth 100000
set_option maxHeartbeats 4000000
theorem j9k {α:Type}(key:α->Int)(l:List α)(x:α):(k20 key l x).length<=l.length+1:=by
 unfold k20
 split
 ·omega
 ·rw [List.length_append,List.length_cons,List.length_take,List.length_drop]
  omega
theorem k98 {α:Type}(key:α->Int):∀ (l A:List α),(l.foldl (k20 key) A).length<=A.length+l.length
 | [],A=>Nat.le_refl _
 | x::l,A=>by
  have h1:=k98 key l (k20 key A x)
  have h2:=j9k key A x
  rw [List.foldl_cons,List.length_cons]
  omega
structure WoI (l:List Note)(i:Nat)(A:List Event)(B:List Decision):Prop where
 ev:A=(k7w (l.take i)).foldl (k20 k9y) []
 de:B=(k2h (l.take i)).foldl (k20 k9z) []
theorem WoI.zero (l:List Note):WoI l 0 [] []:=⟨rfl,rfl⟩
theorem WoI.ev1 {l:List Note}{i:Nat}{A:List Event}{B:List Decision}(h:WoI l i A B)(hi:i<l.length)(hk:l[i].kind=1):WoI l (i+1) (k20 k9y A l[i].ev) B:=by
 refine⟨?_, ?_⟩
 ·rw [z4b hi,if_pos hk,List.foldl_append,<-h.ev]; rfl
 ·rw [k92 hi,if_pos hk,List.append_nil]; exact h.de
theorem WoI.de1 {l:List Note}{i:Nat}{A:List Event}{B:List Decision}(h:WoI l i A B)(hi:i<l.length)(hk:¬ l[i].kind=1):WoI l (i+1) A (k20 k9z B l[i].dec):=by
 refine⟨?_, ?_⟩
 ·rw [z4b hi,if_neg hk,List.append_nil]; exact h.ev
 ·rw [k92 hi,if_neg hk,List.foldl_append,<-h.de]; rfl
theorem WoI.len {l:List Note}{i:Nat}{A:List Event}{B:List Decision}(h:WoI l i A B)(hl:l.length<=900):A.length<=1000/\B.length<=1000:=by
 have h1:=k98 k9y (k7w (l.take i)) []
 have h2:=k98 k9z (k2h (l.take i)) []
 have h3:=z4c (l.take i)
 have h4:=k8e (l.take i)
 rw [<-h.ev] at h1
 rw [<-h.de] at h2
 rw [List.length_take] at h3 h4
 simp only [List.length_nil] at h1 h2
 omega
theorem WoI.done {l:List Note}{A:List Event}{B:List Decision}(h:WoI l l.length A B):A=k90 l/\B=k91 l:=by
 have h1:=h.ev
 have h2:=h.de
 rw [List.take_length] at h1 h2
 exact⟨by rw [h1]; exact (z12 (k7w l)).symm,by rw [h2]; exact (z12 (k2h l)).symm⟩
theorem z4j (c:C44)(l:List Note)(h:Rise q6v okN l)(hl:l.length<=900)(st:q5c) :
  Rets P F.q13 [.agg c.l,.agg [Note.lst false l]] st (.tuple [.agg (c.row (Event.lst false (k90 l)) (Decision.lst false (k91 l))),.int 0]):=by
 have hv:=fun st=>k19 l (by omega) true ⟨fun _=>⟨h,by omega⟩,fun _=>rfl⟩ st
 have hrl:=Note.row_len l
 refine H.q13.view q5l rfl rfl ?_
 repeat' (first 
  | (with_reducible refine Fresh.intro fun b hb=>?_) <;> (try simp -dsimp -implicitDefEqProofs [*] at hb)
  | (with_reducible refine Rets.xcall (hv _) ?_)
  | (simp -dsimp -implicitDefEqProofs [*]))
 revert b; intro wb hwb
 rename_i cb hcb pb hpb
 have hfill:∀ u v,q5g (zC.row .nil .nil) 0 (c.row u v)=c.row u v:=fun u v=>q9i _ _ (by simp)
 clear hv h
 refine q5e (σ:=Nat × List Event × List Decision) (fun x=>[(3,.ptr pb 0),(4,.ptr b 0),(5,.int 0),(6,.ptr wb 0),(7,.int (x.1:Nat))])
  (fun x=>(wb,.arr T.apiWorld (c.row (k2a x.2.1) (q8h x.2.2)))::(b,.arr T.apiWorld (zC.row .nil .nil))::(pb,.arr T.apiPeer [Note.lst false l])::(cb,.arr T.apiContest c.l)::st)
  (fun x=>x.1<=l.length/\Hid (WoI l x.1 x.2.1 x.2.2)) (fun x=>l.length-x.1) (0,[],[])
  ⟨Nat.zero_le _,⟨WoI.zero l⟩⟩ (by simp) (by rw [C44.start c .nil .nil rfl rfl]; exact StLe.refl _) ?_
 rintro⟨i,A,B⟩ ⟨hi,hI⟩
 replace hi:i<=l.length:=hi
 replace hI:Hid (WoI l i A B):=hI
 simp only
 by_cases hil:i<l.length
 case neg=>
  obtain rfl:i=l.length:=by omega
  obtain⟨e1,e2⟩:=hI.out.done
  rw [<-e1,<-e2]
  clear e1 e2 hI
  repeat' (simp -dsimp -implicitDefEqProofs [*])
  exact RetView.sees (SeesV.le (q:=.tuple [.agg (c.row (Event.lst false A) (Decision.lst false B)),.int 0]) (PLeV.tuple2 (PLeV.aggs (PsLe.app (PsLe.refl _) ⟨k96 A,k39 B,trivial⟩)) (.refl _))) (RetView.drop (st':=st) q5m ⟨rfl,rfl⟩)
 have hsub:=Note.row_sub l i hil
 have hwi:=q5f (n:=i) (by omega)
 obtain⟨la,lb⟩:=hI.out.len hl
 by_cases hk:l[i].kind=1
 ·have hn:=Hid.mk (hI.out.ev1 hil hk)
  have ad:=fun st=>z7b A la l[i].ev st
  clear hI
  generalize l[i]=n at *
  repeat' (first 
   | (with_reducible refine Fresh.intro fun b hb=>?_) <;> (try simp -dsimp -implicitDefEqProofs [*] at hb)
   | (with_reducible refine Rets.xcall (ad _) ?_)
   | (simp -dsimp -implicitDefEqProofs [z01, *]))
  exact Next.intro (i+1,k20 k9y A n.ev,B) ⟨by simp only; omega,hn⟩ (by simp only; omega) (by simp) q5m
 ·have hn:=Hid.mk (hI.out.de1 hil hk)
  have ad:=fun st=>k97 B lb l[i].dec st
  clear hI
  generalize l[i]=n at *
  repeat' (first 
   | (with_reducible refine Fresh.intro fun b hb=>?_) <;> (try simp -dsimp -implicitDefEqProofs [*] at hb)
   | (with_reducible refine Rets.xcall (ad _) ?_)
   | (simp -dsimp -implicitDefEqProofs [k60, *]))
  exact Next.intro (i+1,A,k20 k9z B n.dec) ⟨by simp only; omega,hn⟩ (by simp only; omega) (by simp) q5m
theorem z7e (c:C44)(l:List Note)(h:¬ (Rise q6v okN l/\l.length<=4096))(hl:l.length<=900)(st:q5c) :
  Rets P F.q13 [.agg c.l,.agg [Note.lst false l]] st (.tuple [.agg (zC.row (Event.lst false []) (Decision.lst false [])),.int 580]):=by
 have hv:=fun st=>k19 l (by omega) false ⟨fun h=>(by cases h),fun h2=>absurd h2 h⟩ st
 refine H.q13.view q5l rfl rfl ?_
 repeat' (first 
  | (with_reducible refine Fresh.intro fun b hb=>?_) <;> (try simp -dsimp -implicitDefEqProofs [*] at hb)
  | (with_reducible refine Rets.xcall (hv _) ?_)
  | (simp -dsimp -implicitDefEqProofs [*]))
 exact RetView.sees (SeesV.le (q:=.tuple [.agg (zC.row (Event.lst false []) (Decision.lst false [])),.int 580]) (PLeV.tuple2 (PLeV.aggs (PsLe.app (ps:=zC.l) (PsLe.refl _) ⟨.nil1,.nil1,trivial⟩)) (.refl _))) (RetView.drop (st':=st) q5m ⟨rfl,rfl⟩)
open Go.Pv Go.Pv.Cd
set_option maxRecDepth 100000
set_option maxHeartbeats 4000000
def y3f:List Note->PV
 | []=>.nil
 | x::l=>Note.lst false (x::l)
theorem j6x (l:List Note):PLe (y3f l) (Note.lst false l):=by
 cases l with
 | nil=>exact .nil1
 | cons x l=>exact .refl _
theorem z2l (l:List Note):(y3f l).cells=some [y3f l]:=by cases l <;> rfl
theorem y3g {l:List Note}(h:l ≠ []):y3f l=Note.lst false l:=by
 cases l with
 | nil=>exact absurd rfl h
 | cons x l=>rfl
theorem y3h (l:List Note)(x:Note):k6a q6v l x ≠ []:=fun h=>by
 have:x ∈ k6a q6v l x:=k77.2 (.inr rfl)
 rw [h] at this
 cases this
theorem j3l (l:List Note)(h:Rise q6v okN l)(hl:l.length<=1000)(x:Note)(hx:okN x)(st:q5c):Rets P F.q2y [y3f l,x.pv] st (.tuple [y3f (k6a q6v l x),.int 0]):=by
 rw [y3g (y3h l x)]
 exact Rets.args (qs:=[Note.lst false l,x.pv]) ⟨j6x l,.refl _,trivial⟩ (z90 l h hl x hx st)
theorem z7f (t:Bool)(L:List (List (BitVec 8)))(h:4096<L.length)(st:q5c):Rets P F.q2b [.list t (k1z L) L.length] st (.tuple [.agg [Note.lst false []],.int 2]):=by
 have hI:(4096:Int)<L.length:=by omega
 refine H.q2b.view q5l rfl rfl ?_
 repeat' (first 
  | (with_reducible refine Fresh.intro fun b hb=>?_) <;> (try simp -dsimp -implicitDefEqProofs [*] at hb)
  | (simp -dsimp -implicitDefEqProofs [*]))
 exact RetView.sees (SeesV.le (q:=.tuple [.agg [Note.lst false []],.int 2]) (PLeV.tuple2 (PLeV.aggs ⟨.nil1,trivial⟩) (.refl _))) (RetView.drop (st':=st) q5m ⟨rfl,rfl⟩)
structure LdI (L:List (List (BitVec 8)))(i:Nat)(A:List Note):Prop where
 len:A.length<=i
 rise:Rise q6v okN A
 mem:∀ x,x ∈ A ↔ ∃ b ∈ L.take i,q8c b=some x
 all:(L.take i).all (fun b=>(q8c b).isSome)=true
theorem LdI.zero (L:List (List (BitVec 8))):LdI L 0 []:=⟨Nat.le_refl _,.nil,fun x=>⟨fun h=>(by cases h),fun⟨b,h,_⟩=>(by cases h)⟩,rfl⟩
theorem LdI.next {L:List (List (BitVec 8))}{i:Nat}{A:List Note}{n:Note}(h:LdI L i A)(hi:i<L.length)(hr:q8c L[i]=some n):LdI L (i+1) (k6a q6v A n):=by
 have tk:L.take (i+1)=L.take i++[L[i]]:=List.take_succ_eq_append_getElem hi
 have hl:=j8l (c:=q6v) (l:=A) (x:=n)
 have h1:=h.len
 refine⟨by split at hl <;> omega,z59 cmpN_ord h.rise (k5s hr).1,fun x=>?_, ?_⟩
 ·rw [k77,h.mem,tk]
  constructor
  ·rintro (⟨b,hb,e⟩| rfl)
   ·exact⟨b,List.mem_append_left _ hb,e⟩
   ·exact⟨L[i],List.mem_append_right _ List.mem_cons_self,hr⟩
  ·rintro⟨b,hb,e⟩
   rcases List.mem_append.1 hb with hb | hb
   ·exact .inl ⟨b,hb,e⟩
   ·rw [List.mem_singleton] at hb
    subst hb
    rw [hr] at e
    exact .inr (Option.some.inj e).symm
 ·rw [tk,List.all_append,h.all]
  simp [hr]
theorem LdI.done {L:List (List (BitVec 8))}{A:List Note}(h:LdI L L.length A):k6z L=true/\A=k28 L:=by
 have ha:=h.all
 have hm:=h.mem
 rw [List.take_length] at ha hm
 have hB:k6z L=true:=ha
 refine⟨hB, ?_⟩
 unfold k28
 rw [if_pos hB]
 obtain⟨h1,h2⟩:=k9w L
 exact Rise.ext cmpN_ord h.rise h1 fun x=>by rw [hm,h2]
theorem z7g (t:Bool)(L:List (List (BitVec 8)))(hn:L.length<=40)(hL:∀ b ∈ L,b.length<=1000)(st:q5c):Rets P F.q2b [.list t (k1z L) L.length] st (.tuple [.agg [Note.lst false (k28 L)],.int (k4v L)]):=by
 have hI:¬ (4096:Int)<L.length:=by omega
 have hrl:=k50 L
 have kL:=Hid.mk hL
 clear hL
 refine H.q2b.view q5l rfl rfl ?_
 repeat' (first 
  | (with_reducible refine Fresh.intro fun b hb=>?_) <;> (try simp -dsimp -implicitDefEqProofs [*] at hb)
  | (simp -dsimp -implicitDefEqProofs [*]))
 rename_i w hw
 refine q5e (σ:=Nat × List Note) (fun x=>[(0,.list t (k1z L) L.length),(2,.ptr w 0),(3,.int 0),(4,.ptr b 0),(5,.int (x.1:Nat))]) (fun x=>(b,.arr T.apiPeer [y3f x.2])::(w,.arr T.apiPeer [.nil])::st)
  (fun x=>x.1<=L.length/\Hid (LdI L x.1 x.2)) (fun x=>L.length-x.1) (0,[])
  ⟨Nat.zero_le _,⟨LdI.zero L⟩⟩ (by simp) (.refl _) ?_
 rintro⟨i,A⟩ ⟨hi,hA⟩
 replace hi:i<=L.length:=hi
 replace hA:Hid (LdI L i A):=hA
 simp only
 by_cases hil:i<L.length
 case pos=>
  have hwi:=q5f (n:=i) (by omega)
  have hg:=k8d L i hil
  have G:=q6b hg
  have hbl:=kL.out _ (List.getElem_mem hil)
  have hnx:=fun n=>hA.out.next hil (n:=n)
  have hmem:L[i] ∈ L:=List.getElem_mem hil
  have hle:=fun x hx st=>j3l A hA.out.rise (by have:=hA.out.len; omega) x hx st
  generalize L[i]=bi at *
  repeat' (simp -dsimp -implicitDefEqProofs [*])
  refine q5h (z68 bi hbl _) ?_
  rintro e s ⟨n,ok,rfl,rfl,hm⟩
  rw [q5v]
  cases hr:q8c bi with
  | none=>
   rw [hr] at hm
   simp only at hm
   subst hm
   have hB:k6z L=false:=by
    unfold k6z
    rw [List.all_eq_false]
    exact⟨bi,hmem,by rw [hr]; simp⟩
   have hC:k28 L=[]:=by unfold k28; rw [hB]; rfl
   have hE:k4v L=580:=by unfold k4v; rw [hB]; rfl
   rw [hC,hE]
   clear hB hC hE hr hbl hnx hA hle
   repeat' (first 
    | (with_reducible refine Fresh.intro fun b hb=>?_) <;> (try simp -dsimp -implicitDefEqProofs [*] at hb)
    | (simp -dsimp -implicitDefEqProofs [*]))
   exact RetView.sees (SeesV.le (q:=.tuple [.agg [Note.lst false []],.int 580]) (PLeV.tuple2 (PLeV.aggs ⟨.nil1,trivial⟩) (.refl _))) (RetView.drop (st':=st) q5m ⟨rfl,rfl⟩)
  | some m=>
   rw [hr] at hm
   simp only at hm
   obtain⟨rfl,rfl⟩:=hm
   have hX:=Hid.mk (hnx n hr)
   have ln:=fun st=>hle n (k5s hr).1 st
   clear hr hbl hnx hA hle
   repeat' (first 
    | (with_reducible refine Fresh.intro fun b hb=>?_) <;> (try simp -dsimp -implicitDefEqProofs [*] at hb)
    | (with_reducible refine Rets.xcall (ln _) ?_)
    | (simp -dsimp -implicitDefEqProofs [z2l, *]))
   exact Next.intro (i+1,k6a q6v A n) ⟨by simp only; omega,hX⟩ (by simp only; omega) (by simp) q5m
 obtain rfl:i=L.length:=by omega
 obtain⟨hB,hC⟩:=hA.out.done
 have hE:k4v L=0:=by unfold k4v; rw [hB]; rfl
 rw [hE,<-hC]
 clear hB hC hE hA
 repeat' (simp -dsimp -implicitDefEqProofs [z2l, *])
 exact RetView.sees (SeesV.le (q:=.tuple [.agg [Note.lst false A],.int 0]) (PLeV.tuple2 (PLeV.aggs ⟨j6x A,trivial⟩) (.refl _))) (RetView.drop (st':=st) q5m ⟨rfl,rfl⟩)
open Go.Pv Go.Pv.Cd
set_option maxRecDepth 100000
set_option maxHeartbeats 4000000
theorem j6y (c:C44)(l:List Note)(h:¬ (Rise q6v okN l/\l.length<=4096))(hl:l.length<=900)(st:q5c) :
  Rets P F.q2h [.agg c.l,.agg [Note.lst false l]] st (.tuple [.agg (zC.row (Event.lst false []) (Decision.lst false [])),.int 580]):=by
 have hv:=fun st=>k0d l (by omega) false ⟨fun h=>(by cases h),fun h2=>absurd h2 h⟩ st
 refine H.q2h.view q5l rfl rfl ?_
 repeat' (first 
  | (with_reducible refine Fresh.intro fun b hb=>?_) <;> (try simp -dsimp -implicitDefEqProofs [*] at hb)
  | (with_reducible refine Rets.xcall (hv _) ?_)
  | (simp -dsimp -implicitDefEqProofs [*]))
 exact RetView.sees (SeesV.le (q:=.tuple [.agg (zC.row (Event.lst false []) (Decision.lst false [])),.int 580]) (PLeV.tuple2 (PLeV.aggs (PsLe.app (ps:=zC.l) (PsLe.refl _) ⟨.nil1,.nil1,trivial⟩)) (.refl _))) (RetView.drop (st':=st) q5m ⟨rfl,rfl⟩)
theorem j0e (l:List Note)(h:¬ (Rise q6v okN l/\l.length<=4096))(hl:l.length<=900)(st:q5c) :
  Rets P F.q1x [.agg [Note.lst false l]] st (.tuple [.list false (k1z []) 0,.int 580]):=by
 have hv:=fun st=>k0d l (by omega) false ⟨fun h=>(by cases h),fun h2=>absurd h2 h⟩ st
 refine H.q1x.view q5l rfl rfl ?_
 repeat' (first 
  | (with_reducible refine Fresh.intro fun b hb=>?_) <;> (try simp -dsimp -implicitDefEqProofs [*] at hb)
  | (with_reducible refine Rets.xcall (hv _) ?_)
  | (simp -dsimp -implicitDefEqProofs [*]))
 exact RetView.sees (SeesV.le (q:=.tuple [.list false (k1z []) 0,.int 580]) (PLeV.tuple2 .nil1 (.refl _))) (RetView.drop (st':=st) q5m ⟨rfl,rfl⟩)
theorem z04 (l:List Note)(h:¬ (Rise q6v okN l/\l.length<=4096))(hl:l.length<=900)(st:q5c) :
  Rets P F.q1s [.agg [Note.lst false l]] st (.tuple [.list false (k1z []) 0,.int 580]):=by
 have hv:=fun st=>k19 l (by omega) false ⟨fun h=>(by cases h),fun h2=>absurd h2 h⟩ st
 refine H.q1s.view q5l rfl rfl ?_
 repeat' (first 
  | (with_reducible refine Fresh.intro fun b hb=>?_) <;> (try simp -dsimp -implicitDefEqProofs [*] at hb)
  | (with_reducible refine Rets.xcall (hv _) ?_)
  | (simp -dsimp -implicitDefEqProofs [*]))
 exact RetView.sees (SeesV.le (q:=.tuple [.list false (k1z []) 0,.int 580]) (PLeV.tuple2 .nil1 (.refl _))) (RetView.drop (st':=st) q5m ⟨rfl,rfl⟩)
theorem k99 (l:List Note)(h:Rise q6v okN l)(hl:l.length<=900)(st:q5c) :
  Rets P F.q1s [.agg [Note.lst false l]] st (.tuple [.list false (k1z (l.map msg)) l.length,.int 0]):=by
 have hv:=fun st=>k19 l (by omega) true ⟨fun _=>⟨h,by omega⟩,fun _=>rfl⟩ st
 have hok:=Hid.mk h.1
 clear h
 have hrl:=Note.row_len l
 refine H.q1s.view q5l rfl rfl ?_
 repeat' (first 
  | (with_reducible refine Fresh.intro fun b hb=>?_) <;> (try simp -dsimp -implicitDefEqProofs [*] at hb)
  | (with_reducible refine Rets.xcall (hv _) ?_)
  | (with_reducible refine Lit.own (cs:=[]) (len:=0) fun b hb=>?_) <;> (try simp -dsimp -implicitDefEqProofs [*] at hb)
  | (simp -dsimp -implicitDefEqProofs [*]))
 revert b; intro ab hab
 clear hv
 refine q5e (fun y:Nat × Acc (List (BitVec 8))=>[(1,.ptr b 0),(4,.own y.2.b 0 y.2.l.length y.2.cap),(5,.int (y.1:Nat))]) (fun y=>(y.2.b,.arr T.Luint8 y.2.R)::(b,.arr T.apiPeer [Note.lst false l])::st)
  (fun y=>y.1<=l.length/\y.2.Ok k1z 1/\q50 ((b,.arr T.apiPeer [Note.lst false l])::st) y.2.b/\Hid (y.2.l=(l.take y.1).map msg)) (fun y=>l.length-y.1) (0,⟨[],ab,0,[]⟩)
  ⟨Nat.zero_le _,.nil rfl _,by simp [*],⟨rfl⟩⟩ (by simp) (.refl _) ?_
 rintro⟨i,a⟩ ⟨hi,ha,hb2,hI⟩
 replace hi:i<=l.length:=hi
 replace ha:a.Ok k1z 1:=ha
 replace hb2:q50 ((b,.arr T.apiPeer [Note.lst false l])::st) a.b:=hb2
 replace hI:Hid (a.l=(l.take i).map msg):=hI
 simp only
 simp only [q50] at hb2
 by_cases hil:i<l.length
 case neg=>
  obtain rfl:i=l.length:=by omega
  have hl2:=hI.out
  rw [List.take_length] at hl2
  have hfr:=Frz.acc (T:=T.Luint8) ha
  rw [hl2,List.length_map] at hfr
  have e0:a.l.length=l.length:=by rw [hl2,List.length_map]
  rw [e0]
  replace hfr:=Hid.mk hfr
  clear hl2 hI
  repeat' (simp -dsimp -implicitDefEqProofs [*])
  refine RetView.sees (st':=(a.b,.arr T.Luint8 a.R)::st) (.drop (k1a q5m)) ?_
  exact RetView.freeze (.tuple [.list false (k1z (l.map msg)) l.length,.int 0]) (by simp [*]) (.tuple (.cons hfr.out (.cons (.refl _) .nil))) (.same ⟨rfl,rfl⟩)
 have hwi:=q5f (n:=i) (by omega)
 have hsub:=Note.row_sub l i hil
 have hm:=fun st=>q9w l[i] (hok.out _ (List.getElem_mem hil)) st
 have hal:a.l.length<=900:=by rw [hI.out,List.length_map,List.length_take]; omega
 have nx:Hid (a.l++[msg l[i]]=(l.take (i+1)).map msg):=⟨by rw [hI.out,List.take_succ_eq_append_getElem hil,List.map_append]; rfl⟩
 clear hI
 generalize l[i]=x at *
 repeat' (first 
  | (with_reducible refine Rets.xcall (hm _) ?_)
  | (with_reducible refine Lit.imm ?_)
  | (simp -dsimp -implicitDefEqProofs [-q5d, *]))
 refine q7t (bytes:=24) j1o j1p ha (by simp) [msg x] rfl rfl (by omega) fun a' ha' hl' hb3=>?_
 have kl:Hid (a'.l=a.l++[msg x]):=⟨hl'⟩
 clear hl'
 repeat' (simp -dsimp -implicitDefEqProofs [*])
 refine Next.intro (i+1,a') ⟨by simp only; omega,ha',by simpa [*] using hb3,⟨?_⟩⟩ (by simp only; omega) (by simp) (.refl _)
 show a'.l=_
 rw [kl.out,nx.out]
theorem k70 (t u:Bool)(L:List (List (BitVec 8)))(hl:L.length<=100000)(st:q5c):Rets P F.q2a [.list t (k1z L) L.length,.list u (k1z L) L.length] st (.bool true):=by
 have hrl:=k50 L
 refine H.q2a.view q5l rfl rfl ?_
 repeat' (simp -dsimp -implicitDefEqProofs [*])
 refine q5e (fun n:Nat=>[(0,.list t (k1z L) L.length),(1,.list u (k1z L) L.length),(5,.int n)]) (fun _=>st) (fun n=>n<=L.length) (fun n=>L.length-n) 0 (Nat.zero_le _) (by simp [*]) (.refl _) ?_
 rintro n hn
 by_cases hnl:n<L.length
 ·have hwr:=q5f (n:=n) (by omega)
  have hg:=k8d L n hnl
  have G:=q6b hg
  generalize L[n]=x at *
  repeat' (simp -dsimp -implicitDefEqProofs [q89, *])
  exact Next.intro (n+1) (by omega) (by omega) (by simp) q5m
 ·obtain rfl:n=L.length:=by omega
  repeat' (simp -dsimp -implicitDefEqProofs [*])
  exact .same ⟨rfl,rfl⟩
end Go.Proofs.YtmlmoaimjifpgaaGreat
