/- The reference's network: checking any network. -/
import Derived.Test.YtmlmoaimjifpgaaGreatR58E
import Derived.Test.YtmlmoaimjifpgaaGreatW58C
import Derived.Test.YtmlmoaimjifpgaaGreatLCd
namespace Go.Proofs.YtmlmoaimjifpgaaGreat
open Go.Pv
set_option maxRecDepth 100000
set_option maxHeartbeats 8000000
def k6a (n:Int):Bool:=decide (0<=n) && decide (n<24)
theorem k6b (n:Int)(st:q5f):Rets P F.q2g [.int n] st (.bool (k6a n)):=by
 refine H.q2g.pure q5n rfl rfl ?_
 repeat' (first 
  | (with_reducible refine And.intro (fun h=>?_) (fun h=>?_)) <;> (try (exfalso; omega))
  | (simp -dsimp -implicitDefEqProofs [k6a, *]))
 all_goals (intros; omega)
theorem y7y (p:Pk):pkB p=(k6a p.fr && k6a p.to && !decide (p.fr=p.to) && decide (p.d.length<=1048576)):=by
 unfold pkB k33 k6a
 rw [Bool.eq_iff_iff]
 simp only [Bool.and_eq_true,decide_eq_true_eq,Bool.not_eq_true',decide_eq_false_iff_not]
 omega
theorem k4e (p:Pk)(st:q5f):Rets P F.q2x [p.pv] st (.bool (pkB p)):=by
 rw [y7y]
 have s1:=fun st=>k6b p.fr st
 have s2:=fun st=>k6b p.to st
 generalize k6a p.fr=b1 at *
 generalize k6a p.to=b2 at *
 refine H.q2x.view q5n rfl rfl ?_
 cases b1 with
 | false=>
  repeat' (first 
   | (with_reducible refine Fresh.intro fun b hb=>?_) <;> (try simp -dsimp -implicitDefEqProofs [*] at hb)
   | (with_reducible refine Rets.xcall (s1 _) ?_)
   | (simp -dsimp -implicitDefEqProofs [*]))
  exact .drop (st':=st) q5o ⟨rfl,rfl⟩
 | true=>
 cases b2 with
 | false=>
  repeat' (first 
   | (with_reducible refine Fresh.intro fun b hb=>?_) <;> (try simp -dsimp -implicitDefEqProofs [*] at hb)
   | (with_reducible refine Rets.xcall (s1 _) ?_)
   | (with_reducible refine Rets.xcall (s2 _) ?_)
   | (simp -dsimp -implicitDefEqProofs [*]))
  exact .drop (st':=st) q5o ⟨rfl,rfl⟩
 | true=>
 by_cases h:p.fr=p.to
 ·repeat' (first 
   | (with_reducible refine Fresh.intro fun b hb=>?_) <;> (try simp -dsimp -implicitDefEqProofs [*] at hb)
   | (with_reducible refine Rets.xcall (s2 _) ?_)
   | (simp -dsimp -implicitDefEqProofs [*]))
  exact .drop (st':=st) q5o ⟨by simp [h],rfl⟩
 ·repeat' (first 
   | (with_reducible refine Fresh.intro fun b hb=>?_) <;> (try simp -dsimp -implicitDefEqProofs [*] at hb)
   | (with_reducible refine Rets.xcall (s1 _) ?_)
   | (with_reducible refine Rets.xcall (s2 _) ?_)
   | (simp -dsimp -implicitDefEqProofs [*]))
  exact .drop (st':=st) q5o ⟨by simp [h]; omega,rfl⟩
theorem j8u (x:Lk):k33 x.a x.b=(k6a x.a && k6a x.b && !decide (x.b<=x.a)):=by
 unfold k33 k6a
 rw [Bool.eq_iff_iff]
 simp only [Bool.and_eq_true,decide_eq_true_eq,Bool.not_eq_true',decide_eq_false_iff_not]
 omega
theorem j8v (x y:Lk):z4g x y<0 ↔ ¬ (y.a<x.a\/(y.a=x.a/\y.b<=x.b)):=by
 unfold z4g z0j
 split <;> (repeat' split) <;> omega
theorem q8g (q:List Pk)(hl:q.length<=100000)(ap:List Lk)(hap:ap.length<=100000)(r:Bool)(hr:r=true ↔ q8o q ap)(st:q5f):Rets P F.q2m [q9z q ap] st (.int (if r=true then 0 else 60)):=by
 have hR:∃ R:Int,R=if r=true then 0 else 60:=⟨_,rfl⟩
 obtain⟨R,hR⟩:=hR
 have no:Hid (¬ q8o q ap->R=60):=⟨fun h=>by rw [hR,if_neg fun e=>h (hr.1 e)]⟩
 have yes:Hid (q8o q ap->R=0):=⟨fun h=>by rw [hR,if_pos (hr.2 h)]⟩
 rw [<-hR]
 clear hR hr
 refine H.q2m.view q5n rfl rfl ?_
 by_cases h1:(4096:Int)<q.length
 ·have e:=no.out fun h=>by have:=h.1; omega
  clear no yes
  subst e
  repeat' (first 
   | (with_reducible refine Fresh.intro fun b hb=>?_) <;> (try simp -dsimp -implicitDefEqProofs [*] at hb)
   | (simp -dsimp -implicitDefEqProofs [*]))
  exact .drop (st':=st) q5o ⟨rfl,rfl⟩
 have har:=Lk.row_len ap
 have hqr:=Pk.row_len q
 have no1:Hid (¬ z3z q->R=60):=⟨fun h=>no.out fun h2=>h h2.2.1⟩
 have yes1:=Hid.mk fun h0 h=>yes.out ⟨by omega,h0,h⟩
 have no2:Hid (¬ j68 ap ap.length->R=60):=⟨fun h=>no.out fun h2=>h h2.2.2⟩
 clear no yes
 repeat' (first 
  | (with_reducible refine Fresh.intro fun b hb=>?_) <;> (try simp -dsimp -implicitDefEqProofs [*] at hb)
  | (simp -dsimp -implicitDefEqProofs [*]))
 refine q5h (fun i:Nat=>[(1,.ptr b 0),(3,.int i)]) (fun _=>(b,.arr T.apiNet [Pk.lst false q,Lk.lst false ap])::st) (fun i=>i<=q.length/\Hid (z3z (q.take i))) (fun i=>q.length-i) 0 ⟨Nat.zero_le _,⟨fun _ h=>by cases h⟩⟩ (by simp) (.refl _) ?_
 rintro i ⟨hi,hI⟩
 by_cases hil:i<q.length
 ·have hwi:=q5i (n:=i) (by omega)
  have c:=fun st=>k4e q[i] st
  have hs:=Pk.row_sub q i hil
  have hm:=List.getElem_mem hil
  have tk:q.take (i+1)=q.take i++[q[i]]:=List.take_succ_eq_append_getElem hil
  cases hp:pkB q[i] with
  | false=>
   rw [hp] at c
   have e:=no1.out (fun h=>by have:=h _ hm; rw [hp] at this; cases this)
   clear no1 yes1 no2 hI hp hm tk
   subst e
   generalize q[i]=x at *
   repeat' (first 
    | (with_reducible refine Rets.xcall (c _) ?_)
    | (simp -dsimp -implicitDefEqProofs [*]))
   exact .drop (st':=st) q5o ⟨rfl,rfl⟩
  | true=>
   rw [hp] at c
   have hn:Hid (z3z (q.take (i+1))):=⟨fun p h=>by
    rw [tk] at h
    rcases List.mem_append.1 h with h | h
    ·exact hI.out p h
    ·rw [List.mem_singleton] at h
     rw [h,hp]⟩
   clear no1 yes1 no2 hI hp hm tk
   generalize q[i]=x at *
   repeat' (first 
    | (with_reducible refine Rets.xcall (c _) ?_)
    | (simp -dsimp -implicitDefEqProofs [*]))
   exact Next.intro (i+1) ⟨by omega,hn⟩ (by omega) (by simp) q5o
 obtain rfl:i=q.length:=by omega
 rw [List.take_length] at hI
 replace yes1:=Hid.mk (yes1.out hI.out)
 clear no1 hI
 repeat' (simp -dsimp -implicitDefEqProofs [*])
 refine q5h (fun i:Nat=>[(1,.ptr b 0),(4,.int i)]) (fun _=>(b,.arr T.apiNet [Pk.lst false q,Lk.lst false ap])::st) (fun i=>i<=ap.length/\Hid (j68 ap i)) (fun i=>ap.length-i) 0 ⟨Nat.zero_le _,⟨fun _ _ h=>by omega⟩⟩ (by simp) (.refl _) ?_
 rintro i ⟨hi,hI⟩
 by_cases hil:i<ap.length
 case neg=>
  obtain rfl:i=ap.length:=by omega
  have e:=yes1.out hI.out
  clear yes1 no2 hI
  subst e
  repeat' (simp -dsimp -implicitDefEqProofs [*])
  exact .drop (st':=st) q5o ⟨rfl,rfl⟩
 have hwi:=q5i (n:=i) (by omega)
 have hsub:sub (Lk.row ap) (i*2) 2=some [.int ap[i].a,.int ap[i].b]:=Lk.row_sub ap i hil
 have hbad:Hid (∀ h:¬ (k33 ap[i].a ap[i].b=true/\∀ h0:0<i,z4g (ap[i-1]'(by omega)) ap[i]<0),R=60):=⟨fun h=>no2.out fun h2=>h (h2 i hil hil)⟩
 have hgo:Hid (k33 ap[i].a ap[i].b=true->(∀ h0:0<i,z4g (ap[i-1]'(by omega)) ap[i]<0)->j68 ap (i+1)):=⟨fun k1 k2 j hj hji=>by
  by_cases e:j=i
  ·subst e; exact⟨k1,k2⟩
  ·exact hI.out j hj (by omega)⟩
 have s1:=fun st=>k6b ap[i].a st
 have s2:=fun st=>k6b ap[i].b st
 have hlk:=j8u ap[i]
 clear yes1 no2 hI
 cases hv:k33 ap[i].a ap[i].b with
 | false=>
  rw [hv] at hlk
  have e:=hbad.out fun h=>by rw [hv] at h; cases h.1
  clear hbad hgo hv
  subst e
  generalize ap[i]=x at *
  cases h1:k6a x.a with
  | false=>
   rw [h1] at s1
   clear hlk h1
   repeat' (first 
    | (with_reducible refine Fresh.intro fun b hb=>?_) <;> (try simp -dsimp -implicitDefEqProofs [*] at hb)
    | (with_reducible refine Rets.xcall (s1 _) ?_)
    | (simp -dsimp -implicitDefEqProofs [*]))
   exact .drop (st':=st) q5o ⟨rfl,rfl⟩
  | true=>
  rw [h1] at s1 hlk
  cases h2:k6a x.b with
  | false=>
   rw [h2] at s2
   clear hlk h1 h2
   repeat' (first 
    | (with_reducible refine Fresh.intro fun b hb=>?_) <;> (try simp -dsimp -implicitDefEqProofs [*] at hb)
    | (with_reducible refine Rets.xcall (s1 _) ?_)
    | (with_reducible refine Rets.xcall (s2 _) ?_)
    | (simp -dsimp -implicitDefEqProofs [*]))
   exact .drop (st':=st) q5o ⟨rfl,rfl⟩
  | true=>
  rw [h2] at s2 hlk
  have hge:x.b<=x.a:=by simpa using hlk
  clear hlk h1 h2
  repeat' (first 
   | (with_reducible refine Fresh.intro fun b hb=>?_) <;> (try simp -dsimp -implicitDefEqProofs [*] at hb)
   | (with_reducible refine Rets.xcall (s1 _) ?_)
   | (with_reducible refine Rets.xcall (s2 _) ?_)
   | (simp -dsimp -implicitDefEqProofs [*]))
  exact .drop (st':=st) q5o ⟨rfl,rfl⟩
 | true=>
 rw [hv] at hlk
 have h3:k6a ap[i].a=true/\k6a ap[i].b=true/\¬ ap[i].b<=ap[i].a:=by
  have:=hlk.symm
  simp only [Bool.and_eq_true,Bool.not_eq_true',decide_eq_false_iff_not] at this
  exact⟨this.1.1,this.1.2,this.2⟩
 obtain⟨h4,h5,h6⟩:=h3
 rw [h4] at s1
 rw [h5] at s2
 clear hlk h4 h5
 by_cases h0:i=0
 ·subst h0
  have hn:=Hid.mk (hgo.out hv (fun h=>absurd h (Nat.lt_irrefl 0)))
  clear hbad hgo hv
  generalize ap[0]=x at *
  have hw1:IntKind.i64.wrap 1=1:=rfl
  repeat' (first 
   | (with_reducible refine Fresh.intro fun b hb=>?_) <;> (try simp -dsimp -implicitDefEqProofs [*] at hb)
   | (with_reducible refine Rets.xcall (s1 _) ?_)
   | (with_reducible refine Rets.xcall (s2 _) ?_)
   | (simp -dsimp -implicitDefEqProofs [*]))
  exact Next.intro 1 ⟨by omega,hn⟩ (by omega) (by simp) q5o
 have hp:0<i:=by omega
 have hi1:i-1<ap.length:=by omega
 have hw1:IntKind.i64.wrap ((i:Int)-1)=((i-1:Nat):Int):=by rw [q5l (by omega) (by omega)]; omega
 have g0:(Lk.row ap)[(i-1)*2]?=some (.int ap[i-1].a):=q94 Lk.enc 2 Lk.len ap (i-1) 0 hi1 (by omega)
 have G0:=q6v g0
 have g1:(Lk.row ap)[(i-1)*2+1]?=some (.int ap[i-1].b):=q94 Lk.enc 2 Lk.len ap (i-1) 1 hi1 (by omega)
 have G1:=q6v g1
 have hb2:Hid (¬ z4g ap[i-1] ap[i]<0->R=60):=⟨fun h=>hbad.out fun h2=>h (h2.2 hp)⟩
 have hg2:Hid (z4g ap[i-1] ap[i]<0->j68 ap (i+1)):=⟨fun h=>hgo.out hv fun _=>h⟩
 have hcm:=Hid.mk (j8v ap[i-1] ap[i])
 clear hbad hgo hv
 generalize ap[i]=y at *
 generalize ap[i-1]=x at *
 by_cases hc1:y.a<x.a
 ·have e:=hb2.out fun h=>(hcm.out.1 h) (.inl hc1)
  clear hg2 hb2 hcm
  subst e
  repeat' (first 
   | (with_reducible refine Fresh.intro fun b hb=>?_) <;> (try simp -dsimp -implicitDefEqProofs [*] at hb)
   | (with_reducible refine Rets.xcall (s1 _) ?_)
   | (with_reducible refine Rets.xcall (s2 _) ?_)
   | (simp -dsimp -implicitDefEqProofs [*]))
  exact .drop (st':=st) q5o ⟨rfl,rfl⟩
 by_cases hc2:y.a=x.a
 ·rw [hc2] at s1
  by_cases hc3:y.b<=x.b
  ·have e:=hb2.out fun h=>(hcm.out.1 h) (.inr ⟨hc2,hc3⟩)
   clear hg2 hb2 hcm
   subst e
   repeat' (first 
    | (with_reducible refine Fresh.intro fun b hb=>?_) <;> (try simp -dsimp -implicitDefEqProofs [*] at hb)
    | (with_reducible refine Rets.xcall (s1 _) ?_)
    | (with_reducible refine Rets.xcall (s2 _) ?_)
    | (with_reducible refine And.intro (fun h=>?_) (fun h=>?_)) <;> (try (exfalso; omega))
    | (simp -dsimp -implicitDefEqProofs [*]))
   exact .drop (st':=st) q5o ⟨rfl,rfl⟩
  ·have hn:=Hid.mk (hg2.out (hcm.out.2 (by omega)))
   clear hg2 hb2 hcm
   repeat' (first 
    | (with_reducible refine Fresh.intro fun b hb=>?_) <;> (try simp -dsimp -implicitDefEqProofs [*] at hb)
    | (with_reducible refine Rets.xcall (s1 _) ?_)
    | (with_reducible refine Rets.xcall (s2 _) ?_)
    | (with_reducible refine And.intro (fun h=>?_) (fun h=>?_)) <;> (try (exfalso; omega))
    | (simp -dsimp -implicitDefEqProofs [*]))
   exact Next.intro (i+1) ⟨by omega,hn⟩ (by omega) (by simp) q5o
 ·have hn:=Hid.mk (hg2.out (hcm.out.2 (by omega)))
  clear hg2 hb2 hcm
  repeat' (first 
   | (with_reducible refine Fresh.intro fun b hb=>?_) <;> (try simp -dsimp -implicitDefEqProofs [*] at hb)
   | (with_reducible refine Rets.xcall (s1 _) ?_)
   | (with_reducible refine Rets.xcall (s2 _) ?_)
   | (simp -dsimp -implicitDefEqProofs [*]))
  exact Next.intro (i+1) ⟨by omega,hn⟩ (by omega) (by simp) q5o
open Go.Pv
set_option maxRecDepth 100000
set_option maxHeartbeats 8000000
theorem z15 (q:List Pk)(ap:List Lk)(hap:ap.length<=100000)(hl:q.length<4096)(hq:q8o q ap)(p:Pk)(hp:pkB p=true)(st:q5f):Rets P F.q4i [q9z q ap,p.pv] st (.tuple [q9z (q++[p]) ap,.int 0]):=by
 have c:=fun st=>k0k q (by omega) ap hap true ⟨fun _=>hq,fun _=>rfl⟩ st
 rw [if_pos rfl] at c
 have k:=fun st=>k9t p st
 rw [hp] at k
 clear hq hp
 refine H.q4i.view q5n rfl rfl ?_
 repeat' (first 
  | (with_reducible refine Fresh.intro fun b hb=>?_) <;> (try simp -dsimp -implicitDefEqProofs [*] at hb)
  | (with_reducible refine Rets.xcall (c _) ?_)
  | (with_reducible refine Rets.xcall (k _) ?_)
  | ((with_reducible refine Grow.intro ?_ fun b cap hb hc1 hc2=>?_); omega) <;> (try simp -dsimp -implicitDefEqProofs [*] at hb)
  | (with_reducible refine DrawLate.intro [] ?_)
  | (with_reducible refine q6f ?_ ?_)
  | (with_reducible exact Cls.self _ _)
  | (with_reducible refine q6i ?_ ?_)
  | (with_reducible refine And.intro (fun h=>?_) (fun h=>?_)) <;> (try (exfalso; omega))
  | (simp -dsimp -implicitDefEqProofs [*]))
 have hfr:=y02 q [p] b cap (q.length+1) (by simp) hc1 hc2 (List.replicate ((cap-(q.length+1))*3) PV.any)
 have e:Pk.row (q++[p])++List.replicate ((cap-(q.length+1))*3) PV.any=List.take (q.length*3) (Pk.row q)++(p.enc++List.replicate ((cap-(q.length+1))*3) PV.any):=by
  rw [List.take_of_length_le (by simp),Pk.row_append]
  simp
 rw [e] at hfr
 refine RetView.freeze (.tuple [.agg [.list false (Pk.row (q++[p])) (q.length+1),Lk.lst false ap],.int 0]) (by simp [*]) (.tuple (.cons (.agg (.cons hfr (.cons (.refl _) .nil))) (.cons (.refl _) .nil))) ?_
 exact RetView.drop (st':=st) q5o ⟨by rw [show q.length+1=(q++[p]).length by simp],rfl⟩
theorem z30 (q:List Pk)(ap:List Lk)(hap:ap.length<=100000)(hl:q.length<=4096)(hq:q8o q ap)(i:Nat)(hi:i<q.length)(st:q5f):Rets P F.q33 [q9z q ap,.int i] st (.tuple [q[i].pv,.int 0]):=by
 have c:=fun st=>k0k q (by omega) ap hap true ⟨fun _=>hq,fun _=>rfl⟩ st
 rw [if_pos rfl] at c
 have hs:=Pk.row_sub q i hi
 have hr:=Pk.row_len q
 clear hq
 generalize q[i]=p at *
 refine H.q33.view q5n rfl rfl ?_
 repeat' (first 
  | (with_reducible refine Fresh.intro fun b hb=>?_) <;> (try simp -dsimp -implicitDefEqProofs [*] at hb)
  | (with_reducible refine Rets.xcall (c _) ?_)
  | (with_reducible refine And.intro (fun h=>?_) ?_) <;> (try (exfalso; omega))
  | (simp -dsimp -implicitDefEqProofs [*]))
 exact RetView.drop (st':=st) q5o ⟨rfl,rfl⟩
theorem j52 (q:List Pk)(ap:List Lk)(hap:ap.length<=100000)(hl:q.length<=4096)(hq:q8o q ap)(i:Int)(hi:¬ (0<=i/\i<q.length))(st:q5f):Rets P F.q33 [q9z q ap,.int i] st (.tuple [(⟨0,0,[]⟩:Pk).pv,.int 1]):=by
 have c:=fun st=>k0k q (by omega) ap hap true ⟨fun _=>hq,fun _=>rfl⟩ st
 rw [if_pos rfl] at c
 clear hq
 refine H.q33.view q5n rfl rfl ?_
 repeat' (first 
  | (with_reducible refine Fresh.intro fun b hb=>?_) <;> (try simp -dsimp -implicitDefEqProofs [*] at hb)
  | (with_reducible refine Rets.xcall (c _) ?_)
  | (with_reducible refine And.intro (fun h=>?_) (fun h=>?_)) <;> (try (exfalso; omega))
  | (simp -dsimp -implicitDefEqProofs [*]))
 all_goals exact RetView.sees (SeesV.le (q:=.tuple [(⟨0,0,[]⟩:Pk).pv,.int 1]) (PLeV.tuple2 (PLeV.aggs ⟨.refl _,.refl _,.nil1,trivial⟩) (.refl _))) (RetView.drop (st':=st) q5o ⟨rfl,rfl⟩)
theorem k6c (q:List Pk)(ap:List Lk)(hl:q.length<=4096)(i:Nat)(hi:i<q.length)(st:q5f):Rets P F.q3k [q9z q ap,.int i] st (q9z (q.eraseIdx i) ap):=by
 have hwi:IntKind.i64.wrap ((i:Int)+1)=((i+1:Nat):Int):=q5i (n:=i) (by omega)
 have hr:=Pk.row_len q
 have hx:q.length*3-(i+1)*3=(q.length-(i+1))*3:=by omega
 refine H.q3k.view q5n rfl rfl ?_
 have ee:=List.eraseIdx_eq_take_drop_succ (l:=q) (i:=i)
 repeat' (first 
  | (with_reducible refine Fresh.intro fun b hb=>?_) <;> (try simp -dsimp -implicitDefEqProofs [*] at hb)
  | ((with_reducible refine Grow.intro ?_ fun b cap hb hc1 hc2=>?_); omega) <;> (try simp -dsimp -implicitDefEqProofs [*] at hb)
  | (with_reducible refine DrawLate.intro [] ?_)
  | (with_reducible refine q6f ?_ ?_)
  | (with_reducible exact Cls.self _ _)
  | (with_reducible refine q6i ?_ ?_)
  | (with_reducible refine And.intro (fun h=>?_) (fun h=>?_)) <;> (try (exfalso; omega))
  | ((with_reducible refine q5v ?_ fun hk=>?_); omega)
  | (simp -dsimp -implicitDefEqProofs [*]))
 ·rename_i b0 hb0
  have e1:q.eraseIdx i=q.take i:=by rw [ee,List.drop_eq_nil_of_le (by omega),List.append_nil]
  have e2:(q.take i).length=i:=by rw [List.length_take]; omega
  refine RetView.sees (SeesV.le (q:=.agg [.list false (List.take (i*3) (Pk.row q)) i,Lk.lst false ap]) (PLeV.aggs ⟨.loose,.refl _,trivial⟩)) (RetView.drop (st':=st) q5o ⟨?_,rfl⟩)
  rw [<-ee,e1,Pk.row_take]
  show _=PEnd.ret (.agg [.list false (Pk.row (q.take i)) (q.take i).length,Lk.lst false ap])
  rw [e2]
 ·have hl2:(q.take i++q.drop (i+1)).length=i+(q.length-(i+1)):=by rw [List.length_append,List.length_take,List.length_drop]; omega
  have hfr:=y02 (q.take i) (q.drop (i+1)) b cap (i+(q.length-(i+1))) hl2 hc1 hc2 (List.replicate ((cap-(i+(q.length-(i+1))))*3) PV.any)
  have e:Pk.row (q.take i++q.drop (i+1))++List.replicate ((cap-(i+(q.length-(i+1))))*3) PV.any=List.take (i*3) (Pk.row q)++(List.drop ((i+1)*3) (Pk.row q)++List.replicate ((cap-(i+(q.length-(i+1))))*3) PV.any):=by
   rw [Pk.row_take,Pk.row_drop,Pk.row_append,List.append_assoc]
  rw [e] at hfr
  refine RetView.freeze (.agg [.list false (Pk.row (q.take i++q.drop (i+1))) (i+(q.length-(i+1))),Lk.lst false ap]) (by simp [*]) (.agg (.cons hfr (.cons (.refl _) .nil))) ?_
  exact RetView.drop (st':=st) q5o ⟨by rw [<-hl2],rfl⟩
open Go.Pv
set_option maxRecDepth 100000
set_option maxHeartbeats 8000000
theorem y99 (x y:Lk):q6c [.int,.int] x.enc y.enc=some (decide (x=y)):=by
 obtain⟨a,b⟩:=x
 obtain⟨c,d⟩:=y
 simp [Lk.enc]
def IxL (ap:List Lk)(x:Lk)(st:q5f)(e:PEnd)(s:q5f):Prop:=∃ n:Int,e=.ret (.int n)/\s=st/\(0<=n ↔ x ∈ ap)
theorem y7z (ap:List Lk)(hap:ap.length<=100000)(x:Lk)(st:q5f):PCalls P F.q18 [Lk.lst false ap,.agg x.enc] st (IxL ap x st):=by
 have yes:=Hid.mk fun (n:Int) (h0:0<=n) (h:x ∈ ap)=>(⟨n,rfl,rfl,fun _=>h,fun _=>h0⟩:IxL ap x st (.ret (.int n)) st)
 have no:=Hid.mk fun (h:¬ x ∈ ap)=>(⟨-1,rfl,rfl,fun h=>by omega,fun h2=>absurd h2 h⟩:IxL ap x st (.ret (.int (-1))) st)
 have har:=Lk.row_len ap
 refine H.q18.view q5n rfl rfl ?_
 repeat' (first 
  | (with_reducible refine Fresh.intro fun b hb=>?_) <;> (try simp -dsimp -implicitDefEqProofs [*] at hb)
  | (simp -dsimp -implicitDefEqProofs [*]))
 refine q5h (fun i:Nat=>[(8,.int i),(7,.int ap.length),(3,.ptr b 0),(0,Lk.lst false ap)]) (fun _=>(b,.arr T.t2int x.enc)::st) (fun i=>i<=ap.length/\Hid (¬ x ∈ ap.take i)) (fun i=>ap.length-i) 0 ⟨Nat.zero_le _,⟨fun h=>by cases h⟩⟩ (by simp) (.refl _) ?_
 rintro i ⟨hi,hI⟩
 by_cases hil:i<ap.length
 case neg=>
  obtain rfl:i=ap.length:=by omega
  rw [List.take_length] at hI
  have e:=no.out hI.out
  clear yes no hI
  repeat' (simp -dsimp -implicitDefEqProofs [*])
  exact .drop (st':=st) q5o e
 have hwi:=q5i (n:=i) (by omega)
 have hs:=Lk.row_sub ap i hil
 have hm:=List.getElem_mem hil
 have tk:ap.take (i+1)=ap.take i++[ap[i]]:=List.take_succ_eq_append_getElem hil
 by_cases hx:x=ap[i]
 ·have e:=yes.out i (by omega) (by rw [hx]; exact hm)
  rw [<-hx] at hs
  have he:=y99 x x
  rw [decide_eq_true rfl] at he
  clear yes no hI tk hm hx
  repeat' (simp -dsimp -implicitDefEqProofs [*])
  exact .drop (st':=st) q5o e
 ·have hn:Hid (¬ x ∈ ap.take (i+1)):=⟨fun h=>by
   rw [tk] at h
   rcases List.mem_append.1 h with h | h
   ·exact hI.out h
   ·exact hx (List.mem_singleton.1 h)⟩
  have he:=y99 x ap[i]
  rw [decide_eq_false hx] at he
  have he2:=y99 ap[i] x
  rw [decide_eq_false (fun e=>hx e.symm)] at he2
  clear yes no hI tk hm hx
  generalize ap[i]=y at *
  repeat' (simp -dsimp -implicitDefEqProofs [*])
  exact Next.intro (i+1) ⟨by omega,hn⟩ (by omega) (by simp) q5o
theorem j53 (ap:List Lk)(hap:ap.length<=100000)(x:Lk)(st:q5f):Rets P F.q1v [Lk.lst false ap,.agg [.int x.a,.int x.b]] st (.bool (decide (x ∈ ap))):=by
 have c:=fun st=>y7z ap hap x st
 unfold Lk.enc at c
 have hx:∃ r,r=decide (x ∈ ap):=⟨_,rfl⟩
 obtain⟨r,hr⟩:=hx
 rw [<-hr]
 replace hr:Hid (r=true ↔ x ∈ ap):=⟨by rw [hr,decide_eq_true_eq]⟩
 refine H.q1v.pure q5n rfl rfl ?_
 repeat' (first 
  | (with_reducible refine Fresh.intro fun b hb=>?_) <;> (try simp -dsimp -implicitDefEqProofs [*] at hb)
  | (simp -dsimp -implicitDefEqProofs [*]))
 refine q5k (c _) ?_
 clear c
 rintro e s ⟨n,rfl,rfl,hn⟩
 rw [q5x]
 have e:r=decide (0<=n):=by
  rw [Bool.eq_iff_iff,decide_eq_true_eq,hn]
  exact hr.out
 rw [e]
 clear e hr hn
 repeat' (simp -dsimp -implicitDefEqProofs [*])
 all_goals exact .same ⟨rfl,rfl⟩
theorem k9w (q:List Pk)(ap:List Lk)(hap:ap.length<=100000)(hl:q.length<=4096)(hq:q8o q ap)(i:Nat)(hi:i<q.length)(st:q5f):Rets P F.q10 [q9z q ap,.int i] st (.tuple [(if (⟨min q[i].fr q[i].to,max q[i].fr q[i].to⟩:Lk) ∈ ap then (⟨0,0,[]⟩:Pk) else q[i]).pv,q9z (q.eraseIdx i) ap,.int 0]):=by
 have a:=fun st=>z30 q ap hap hl hq i hi st
 have w:=fun st=>k6c q ap hl i hi st
 clear hq
 generalize q[i]=p at *
 generalize q.eraseIdx i=q2 at *
 have cu:=fun st=>j53 ap hap ⟨min p.fr p.to,max p.fr p.to⟩ st
 simp only at cu
 by_cases hc:(⟨min p.fr p.to,max p.fr p.to⟩:Lk) ∈ ap
 ·rw [decide_eq_true hc] at cu
  rw [if_pos hc]
  clear hc
  have hset:((p.enc.set 0 (.int 0)).set 1 (.int 0)).set 2 .nil=[.int 0,.int 0,.nil]:=rfl
  refine H.q10.view q5n rfl rfl ?_
  repeat' (first 
   | (with_reducible refine Fresh.intro fun b hb=>?_) <;> (try simp -dsimp -implicitDefEqProofs [*] at hb)
   | (with_reducible refine Rets.xcall (a _) ?_)
   | (with_reducible refine Rets.xcall (k2h _ _ _) ?_)
   | (with_reducible refine Rets.xcall (cu _) ?_)
   | (with_reducible refine Rets.xcall (w _) ?_)
   | (with_reducible refine DrawLate.intro [] ?_)
   | (simp -dsimp -implicitDefEqProofs [*]))
  refine RetView.sees (SeesV.le (q:=.tuple [(⟨0,0,[]⟩:Pk).pv,q9z q2 ap,.int 0]) (PLeV.tuple3 (PLeV.aggs (ps:=[.int 0,.int 0,.nil]) (qs:=[.int 0,.int 0,.list false [] 0]) ⟨.refl _,.refl _,.nil1,trivial⟩) (.refl _) (.refl _))) ?_
  exact RetView.drop (st':=st) q5o ⟨rfl,rfl⟩
 ·rw [decide_eq_false hc] at cu
  rw [if_neg hc]
  clear hc
  refine H.q10.view q5n rfl rfl ?_
  repeat' (first 
   | (with_reducible refine Fresh.intro fun b hb=>?_) <;> (try simp -dsimp -implicitDefEqProofs [*] at hb)
   | (with_reducible refine Rets.xcall (a _) ?_)
   | (with_reducible refine Rets.xcall (k2h _ _ _) ?_)
   | (with_reducible refine Rets.xcall (cu _) ?_)
   | (with_reducible refine Rets.xcall (w _) ?_)
   | (with_reducible refine DrawLate.intro [] ?_)
   | (simp -dsimp -implicitDefEqProofs [*]))
  exact RetView.drop (st':=st) q5o ⟨rfl,rfl⟩
theorem z9j (q:List Pk)(ap:List Lk)(hap:ap.length<=100000)(hl:q.length<=4096)(hq:q8o q ap)(i:Int)(hi:¬ (0<=i/\i<q.length))(st:q5f):Rets P F.q10 [q9z q ap,.int i] st (.tuple [(⟨0,0,[]⟩:Pk).pv,z6m [],.int 1]):=by
 have a:=fun st=>j52 q ap hap hl hq i hi st
 clear hq
 refine H.q10.view q5n rfl rfl ?_
 repeat' (first 
  | (with_reducible refine Fresh.intro fun b hb=>?_) <;> (try simp -dsimp -implicitDefEqProofs [*] at hb)
  | (with_reducible refine Rets.xcall (a _) ?_)
  | (with_reducible refine DrawLate.intro [] ?_)
  | (simp -dsimp -implicitDefEqProofs [*]))
 exact RetView.sees (SeesV.le (q:=.tuple [(⟨0,0,[]⟩:Pk).pv,z6m [],.int 1]) (PLeV.tuple3 (.refl _) k0y (.refl _))) (RetView.drop (st':=st) q5o ⟨rfl,rfl⟩)
theorem j8w (q:List Pk)(ap:List Lk)(hap:ap.length<=100000)(hl:q.length<=4096)(hq:q8o q ap)(i:Nat)(hi:i<q.length)(st:q5f):Rets P F.q35 [q9z q ap,.int i] st (.tuple [q9z (q.eraseIdx i) ap,.int 0]):=by
 have a:=fun st=>z30 q ap hap hl hq i hi st
 have w:=fun st=>k6c q ap hl i hi st
 clear hq
 generalize q[i]=p at *
 generalize q.eraseIdx i=q2 at *
 refine H.q35.view q5n rfl rfl ?_
 repeat' (first 
  | (with_reducible refine Fresh.intro fun b hb=>?_) <;> (try simp -dsimp -implicitDefEqProofs [*] at hb)
  | (with_reducible refine Rets.xcall (a _) ?_)
  | (with_reducible refine Rets.xcall (w _) ?_)
  | (simp -dsimp -implicitDefEqProofs [*]))
 exact RetView.drop (st':=st) q5o ⟨rfl,rfl⟩
theorem j8x (q:List Pk)(ap:List Lk)(hap:ap.length<=100000)(hl:q.length<=4096)(hq:q8o q ap)(i:Int)(hi:¬ (0<=i/\i<q.length))(st:q5f):Rets P F.q35 [q9z q ap,.int i] st (.tuple [z6m [],.int 1]):=by
 have a:=fun st=>j52 q ap hap hl hq i hi st
 clear hq
 refine H.q35.view q5n rfl rfl ?_
 repeat' (first 
  | (with_reducible refine Fresh.intro fun b hb=>?_) <;> (try simp -dsimp -implicitDefEqProofs [*] at hb)
  | (with_reducible refine Rets.xcall (a _) ?_)
  | (simp -dsimp -implicitDefEqProofs [*]))
 exact RetView.sees (SeesV.le (q:=.tuple [z6m [],.int 1]) (PLeV.tuple2 k0y (.refl _))) (RetView.drop (st':=st) q5o ⟨rfl,rfl⟩)
theorem j2r (q:List Pk)(ap:List Lk)(hap:ap.length<=100000)(hl:q.length<4096)(hq:q8o q ap)(i:Nat)(hi:i<q.length)(st:q5f):Rets P F.q29 [q9z q ap,.int i] st (.tuple [q9z (q++[q[i]]) ap,.int 0]):=by
 have a:=fun st=>z30 q ap hap (by omega) hq i hi st
 have w:=fun st=>z15 q ap hap hl hq q[i] (hq.2.1 _ (List.getElem_mem hi)) st
 clear hq
 generalize q[i]=p at *
 generalize q++[p]=q2 at *
 refine H.q29.view q5n rfl rfl ?_
 repeat' (first 
  | (with_reducible refine Fresh.intro fun b hb=>?_) <;> (try simp -dsimp -implicitDefEqProofs [*] at hb)
  | (with_reducible refine Rets.xcall (a _) ?_)
  | (with_reducible refine Rets.xcall (w _) ?_)
  | (simp -dsimp -implicitDefEqProofs [*]))
 exact RetView.drop (st':=st) q5o ⟨rfl,rfl⟩
theorem j2s (q:List Pk)(ap:List Lk)(hap:ap.length<=100000)(hl:q.length<=4096)(hq:q8o q ap)(i:Int)(hi:¬ (0<=i/\i<q.length))(st:q5f):Rets P F.q29 [q9z q ap,.int i] st (.tuple [z6m [],.int 1]):=by
 have a:=fun st=>j52 q ap hap hl hq i hi st
 clear hq
 refine H.q29.view q5n rfl rfl ?_
 repeat' (first 
  | (with_reducible refine Fresh.intro fun b hb=>?_) <;> (try simp -dsimp -implicitDefEqProofs [*] at hb)
  | (with_reducible refine Rets.xcall (a _) ?_)
  | (simp -dsimp -implicitDefEqProofs [*]))
 exact RetView.sees (SeesV.le (q:=.tuple [z6m [],.int 1]) (PLeV.tuple2 k0y (.refl _))) (RetView.drop (st':=st) q5o ⟨rfl,rfl⟩)
open Go.Pv Go.Pv.Cd
set_option maxRecDepth 100000
set_option maxHeartbeats 8000000
def q6d (p:Nat × Nat × Note):Pk:=⟨p.1,p.2.1,msg p.2.2⟩
def prR (l:List (List Note)):List PV:=l.map (Note.lst false)
@[simp] theorem q71 (l:List (List Note)):(prR l).length=l.length:=by simp [prR]
theorem k3f {l:List (List Note)}{i:Nat}(h:i<l.length):(prR l)[i]?=some (Note.lst false l[i]):=by simp [prR,h]
def z31 (r:PR Note):List PV:=[.list false (prR r.peers) r.peers.length,Pk.lst false (r.q.map q6d),.list false [] 0]
theorem encs_len:∀ (l:List Int),(∀ x ∈ l,0<=x/\x<=2097152)->(Vl.encs (l.map .int)).length<=l.length*11
 | [],_=>Nat.le_refl _
 | x::l,h=>by
  have h0:=h x (List.mem_cons_self ..)
  have ih:=encs_len l fun y hy=>h y (List.mem_cons_of_mem _ hy)
  rw [List.map_cons,Vl.encs,List.length_append,Vl.enc,List.length_cons,List.length_cons]
  have h2:zig x<18446744073709551616:=j46 (by omega)
  have:=q69 h2
  rw [q9u] at this
  omega
theorem k04 {n:Note}(h:q5q n=true):(msg n).length<=1000:=by
 have:=encs_len n.ints (k0v h)
 rw [Note.ints_len] at this
 have h2:=q69 (n:=24) (by decide)
 rw [q9u] at h2
 unfold msg y44
 rw [Vl.enc,List.length_cons,List.length_append,List.length_map,Note.ints_len]
 omega
theorem j2t (n:Note)(hn:q5q n=true)(st:q5f):Rets P F.q16 [q53 false (msg n)] st (.tuple [n.pv,.bool true]):=
 PCalls.mono (k9r (msg n) (by have:=k04 hn; omega) st) fun e s ⟨m,ok,h1,h2,h3⟩=>by
  rw [k3x hn] at h3
  obtain⟨rfl,rfl⟩:=h3
  exact⟨h1,h2⟩
abbrev InR (r:PR Note)(n:Nat)(U:List Note):Prop:=r.In q6p q5q n U
theorem InR.pk {r:PR Note}{n:Nat}{U:List Note}(h:InR r n U)(hn:n<=24):∀ p ∈ r.q.map q6d,pkB p=true:=fun p hp=>by
 obtain⟨x,hx,rfl⟩:=List.mem_map.1 hp
 have hq:=h.q x hx
 have hm:=k04 hq.2.2.2.1
 unfold pkB k33 q6d
 simp only [Bool.and_eq_true,decide_eq_true_eq]
 have h1:=hq.1
 have h2:=hq.2.1
 have h3:=hq.2.2.1
 refine⟨⟨⟨?_, ?_⟩, ?_⟩, ?_⟩ <;> omega
theorem InR.peer {r:PR Note}{n:Nat}{U:List Note}(h:InR r n U){l:List Note}(hl:l ∈ r.peers):Rise q6p okN l/\l.length<=U.length:=
 ⟨h.rise l hl,k1m (Rise.nodup cmpN_ord (h.rise l hl)) (h.sub l hl)⟩
theorem z33 {L:List PV}{i:Nat}{x:PV}(h:L[i]?=some x):sub L i 1=some [x]:=by
 obtain⟨h1,h2⟩:=List.getElem?_eq_some_iff.1 h
 unfold sub
 rw [if_pos (by omega),<-List.getElem_cons_drop h1,h2]
 rfl
def LksOK (ap:List Lk):Prop:=ap.length<=100000/\j68 ap ap.length
theorem LksOK.net {ap:List Lk}(h:LksOK ap){q:List Pk}(hl:q.length<=4096)(hq:∀ p ∈ q,pkB p=true):q8o q ap:=⟨hl,hq,h.2⟩
theorem j54:LksOK []:=⟨Nat.zero_le _,fun i h=>absurd h (Nat.not_lt_zero i)⟩
def q6j (peers:List (List Note))(Q:List Pk)(ap:List Lk):List PV:=[.list false (prR peers) peers.length,Pk.lst false Q,Lk.lst false ap]
def q59 (ap:List Lk)(r:PR Note):List PV:=q6j r.peers (r.q.map q6d) ap
def z9k (n:Nat)(p:Pk):Prop:=(∃ x,q8f p.d=some x)/\p.fr<n/\p.to<n
def k42 (l:List (List Note)):Prop:=∀ x ∈ l,Rise q6p okN x/\x.length<=4096
def k6d (peers:List (List Note))(Q:List Pk)(ap:List Lk):Prop:=(1<=peers.length/\peers.length<=24)/\q8o Q ap/\k42 peers/\∀ p ∈ Q,z9k peers.length p
theorem k7u {l:List (List Note)}{i:Nat}(hi:i<l.length)(h:k42 (l.take i))(hx:Rise q6p okN l[i]/\l[i].length<=4096):k42 (l.take (i+1)):=fun x hm=>by
 rw [List.take_succ_eq_append_getElem hi] at hm
 rcases List.mem_append.1 hm with h1 | h1
 ·exact h x h1
 ·rw [List.mem_singleton.1 h1]; exact hx
theorem z16 {n:Nat}{Q:List Pk}{i:Nat}(hi:i<Q.length)(h:∀ p ∈ Q.take i,z9k n p)(hx:z9k n Q[i]):∀ p ∈ Q.take (i+1),z9k n p:=fun x hm=>by
 rw [List.take_succ_eq_append_getElem hi] at hm
 rcases List.mem_append.1 hm with h1 | h1
 ·exact h x h1
 ·rw [List.mem_singleton.1 h1]; exact hx
theorem k7v (peers:List (List Note))(Q:List Pk)(ap:List Lk)(hp:peers.length<=24->∀ l ∈ peers,l.length<=100000)(hQ:Q.length<=100000)(hd:∀ p ∈ Q,p.d.length<=100000)(hap:ap.length<=100000)(r:Bool)(hr:r=true ↔ k6d peers Q ap)(st:q5f) :
  Rets P F.q1i [.agg (q6j peers Q ap)] st (.int (if r=true then 0 else 580)):=by
 have hR:∃ R:Int,R=if r=true then 0 else 580:=⟨_,rfl⟩
 obtain⟨R,hR⟩:=hR
 have no:Hid (¬ k6d peers Q ap->R=580):=⟨fun h=>by rw [hR,if_neg fun e=>h (hr.1 e)]⟩
 have yes:Hid (k6d peers Q ap->R=0):=⟨fun h=>by rw [hR,if_pos (hr.2 h)]⟩
 rw [<-hR]
 clear hR hr
 unfold q6j
 have hpl:=q71 peers
 have hqr:=Pk.row_len Q
 refine H.q1i.view q5n rfl rfl ?_
 by_cases h1:1<=peers.length
 case neg=>
  have e:=no.out fun h=>h1 h.1.1
  have h2:(peers.length:Int)<1:=by omega
  clear no yes hp hd
  subst e
  repeat' (first 
   | (with_reducible refine Fresh.intro fun b hb=>?_) <;> (try simp -dsimp -implicitDefEqProofs [*] at hb)
   | (simp -dsimp -implicitDefEqProofs [*]))
  exact .drop (st':=st) q5o ⟨rfl,rfl⟩
 by_cases h2:peers.length<=24
 case neg=>
  have e:=no.out fun h=>h2 h.1.2
  have h3:(24:Int)<peers.length:=by omega
  clear no yes hp hd
  subst e
  repeat' (first 
   | (with_reducible refine Fresh.intro fun b hb=>?_) <;> (try simp -dsimp -implicitDefEqProofs [*] at hb)
   | (with_reducible refine And.intro (fun h=>?_) (fun h=>?_)) <;> (try (exfalso; omega))
   | (simp -dsimp -implicitDefEqProofs [*]))
  exact .drop (st':=st) q5o ⟨rfl,rfl⟩
 by_cases h3:q8o Q ap
 case neg=>
  have c:=fun st=>k0k Q hQ ap hap false ⟨(fun h=>by cases h),fun h=>absurd h h3⟩ st
  rw [if_neg (by decide)] at c
  have e:=no.out fun h=>h3 h.2.1
  clear no yes hp hd h3
  subst e
  repeat' (first 
   | (with_reducible refine Fresh.intro fun b hb=>?_) <;> (try simp -dsimp -implicitDefEqProofs [*] at hb)
   | (with_reducible refine Rets.xcall (c _) ?_)
   | (with_reducible refine And.intro (fun h=>?_) (fun h=>?_)) <;> (try (exfalso; omega))
   | (simp -dsimp -implicitDefEqProofs [*]))
  exact .drop (st':=st) q5o ⟨rfl,rfl⟩
 have c:=fun st=>k0k Q hQ ap hap true ⟨fun _=>h3,fun _=>rfl⟩ st
 rw [if_pos rfl] at c
 replace hp:=Hid.mk (hp h2)
 replace hd:=Hid.mk hd
 have no1:Hid (¬ k42 peers->R=580):=⟨fun h=>no.out fun h2=>h h2.2.2.1⟩
 have no2:Hid (¬ (∀ p ∈ Q,z9k peers.length p)->R=580):=⟨fun h=>no.out fun h2=>h h2.2.2.2⟩
 have yes1:=Hid.mk fun a b=>yes.out ⟨⟨h1,h2⟩,h3,a,b⟩
 clear no yes h3
 repeat' (first 
  | (with_reducible refine Fresh.intro fun b hb=>?_) <;> (try simp -dsimp -implicitDefEqProofs [*] at hb)
  | (with_reducible refine Rets.xcall (c _) ?_)
  | (with_reducible refine And.intro (fun h=>?_) (fun h=>?_)) <;> (try (exfalso; omega))
  | (simp -dsimp -implicitDefEqProofs [*]))
 clear c
 refine q5h (fun i:Nat=>[(28,.int i),(27,.int peers.length),(26,.list false (prR peers) peers.length),(2,.int 0),(1,.ptr b 0)]) (fun _=>(b,.arr T.apiRoom [.list false (prR peers) peers.length,Pk.lst false Q,Lk.lst false ap])::st) (fun i=>i<=peers.length/\Hid (k42 (peers.take i))) (fun i=>peers.length-i) 0 ⟨Nat.zero_le _,⟨fun _ h=>by cases h⟩⟩ (by simp) (.refl _) ?_
 rintro i ⟨hi,hI⟩
 by_cases hil:i<peers.length
 ·have hwi:=q5i (n:=i) (by omega)
  have g1:=k3f hil
  have G1:=q6v g1
  have hx:=hp.out _ (List.getElem_mem hil)
  by_cases hv:Rise q6p okN peers[i]/\peers[i].length<=4096
  ·have v:=fun st=>k2i peers[i] hx true ⟨fun _=>hv,fun _=>rfl⟩ st
   have hn:=Hid.mk (k7u hil hI.out hv)
   obtain⟨l,hl⟩:∃ l,l=peers[i]:=⟨_,rfl⟩
   rw [<-hl] at g1 v
   simp only [<-hl] at G1
   have s1:=z33 g1
   clear hl hx hI hv no1 no2 yes1
   repeat' (first 
    | (with_reducible refine Fresh.intro fun b hb=>?_) <;> (try simp -dsimp -implicitDefEqProofs [*] at hb)
    | (with_reducible refine Rets.xcall (v _) ?_)
    | (simp -dsimp -implicitDefEqProofs [*]))
   exact Next.intro (i+1) ⟨by omega,hn⟩ (by omega) (by simp) q5o
  ·have v:=fun st=>k2i peers[i] hx false ⟨(fun h=>by cases h),fun h=>absurd h hv⟩ st
   have e:=no1.out fun h=>hv (h _ (List.getElem_mem hil))
   obtain⟨l,hl⟩:∃ l,l=peers[i]:=⟨_,rfl⟩
   rw [<-hl] at g1 v
   simp only [<-hl] at G1
   have s1:=z33 g1
   clear hl hx hI hv no1 no2 yes1
   subst e
   repeat' (first 
    | (with_reducible refine Fresh.intro fun b hb=>?_) <;> (try simp -dsimp -implicitDefEqProofs [*] at hb)
    | (with_reducible refine Rets.xcall (v _) ?_)
    | (simp -dsimp -implicitDefEqProofs [*]))
   exact .drop (st':=st) q5o ⟨rfl,rfl⟩
 obtain rfl:i=peers.length:=by omega
 rw [List.take_length] at hI
 replace yes1:=Hid.mk (yes1.out hI.out)
 clear hp hI no1
 repeat' (simp -dsimp -implicitDefEqProofs [*])
 refine q5h (fun j:Nat=>[(38,Pk.lst false Q),(39,.int Q.length),(40,.int j),(2,.int 0),(1,.ptr b 0)]) (fun _=>(b,.arr T.apiRoom [.list false (prR peers) peers.length,Pk.lst false Q,Lk.lst false ap])::st) (fun j=>j<=Q.length/\Hid (∀ p ∈ Q.take j,z9k peers.length p)) (fun j=>Q.length-j) 0 ⟨Nat.zero_le _,⟨fun _ h=>by cases h⟩⟩ (by simp) (.refl _) ?_
 rintro j ⟨hj,hI⟩
 by_cases hjQ:j<Q.length
 case neg=>
  obtain rfl:j=Q.length:=by omega
  rw [List.take_length] at hI
  have e:=yes1.out hI.out
  clear hI yes1 no2 hd
  subst e
  repeat' (simp -dsimp -implicitDefEqProofs [*])
  all_goals exact RetView.drop (st':=st) q5o ⟨rfl,rfl⟩
 have hwj:=q5i (n:=j) (by omega)
 have hs:=Pk.row_sub Q j hjQ
 have rd:=fun st=>k9r Q[j].d (hd.out _ (List.getElem_mem hjQ)) st
 have go:Hid (z9k peers.length Q[j]->∀ p ∈ Q.take (j+1),z9k peers.length p):=⟨z16 hjQ hI.out⟩
 have bad:Hid (¬ z9k peers.length Q[j]->R=580):=⟨fun h=>no2.out fun h2=>h (h2 _ (List.getElem_mem hjQ))⟩
 clear hI yes1 no2 hd
 generalize Q[j]=x at *
 obtain⟨xa,xb,xd⟩:=x
 simp only at rd
 repeat' (first 
  | (with_reducible refine Fresh.intro fun b hb=>?_) <;> (try simp -dsimp -implicitDefEqProofs [*] at hb)
  | (simp -dsimp -implicitDefEqProofs [*]))
 refine q5k (rd _) ?_
 clear rd
 rintro e s ⟨n,ok,rfl,rfl,hn⟩
 rw [q5x]
 cases hx:q8f xd with
 | none=>
  rw [hx] at hn
  simp only at hn
  have e:=bad.out fun h=>by obtain⟨⟨n,hn⟩, -⟩:=h; simp only at hn; rw [hx] at hn; cases hn
  clear bad go hx
  subst hn
  subst e
  repeat' (first 
   | (with_reducible refine Fresh.intro fun b hb=>?_) <;> (try simp -dsimp -implicitDefEqProofs [*] at hb)
   | (simp -dsimp -implicitDefEqProofs [*]))
  all_goals exact RetView.drop (st':=st) q5o ⟨rfl,rfl⟩
 | some y=>
  rw [hx] at hn
  simp only at hn
  obtain⟨h5, -⟩:=hn
  subst h5
  by_cases hm:xa<peers.length/\xb<peers.length
  ·have nx:=Hid.mk (go.out ⟨⟨y,hx⟩,hm⟩)
   have hmx:¬ (peers.length:Int)<=(if xa<xb then xb else xa):=by split <;> omega
   clear bad go hx hm
   repeat' (first 
    | (with_reducible refine Fresh.intro fun b hb=>?_) <;> (try simp -dsimp -implicitDefEqProofs [*] at hb)
    | (simp -dsimp -implicitDefEqProofs [*]))
   all_goals exact Next.intro (j+1) ⟨by omega,nx⟩ (by omega) (by simp) q5o
  ·have e:=bad.out fun h=>hm h.2
   have hmx:(peers.length:Int)<=(if xa<xb then xb else xa):=by split <;> omega
   clear bad go hx hm
   subst e
   repeat' (first 
    | (with_reducible refine Fresh.intro fun b hb=>?_) <;> (try simp -dsimp -implicitDefEqProofs [*] at hb)
    | (simp -dsimp -implicitDefEqProofs [*]))
   all_goals exact RetView.drop (st':=st) q5o ⟨rfl,rfl⟩
theorem InR.roomOK {ap:List Lk}(hap:LksOK ap){r:PR Note}{n:Nat}{U:List Note}(h:InR r n U)(hn:1<=n/\n<=24)(hU:U.length<=1000)(hq:r.q.length<=4000):k6d r.peers (r.q.map q6d) ap:=by
 have hl:=h.len
 refine⟨by omega,hap.net (by rw [List.length_map]; omega) (h.pk hn.2),fun l hm=>?_,fun p hp=>?_⟩
 ·have:=h.peer hm
  exact⟨this.1,by omega⟩
 ·obtain⟨x,hx,rfl⟩:=List.mem_map.1 hp
  have hq:=h.q x hx
  exact⟨⟨x.2.2,k3x hq.2.2.2.1⟩,by show (x.1:Int)<_; omega,by show (x.2.1:Int)<_; omega⟩
theorem q6z {ap:List Lk}(hap:LksOK ap){r:PR Note}{n:Nat}{U:List Note}(h:InR r n U)(hn:1<=n/\n<=24)(hU:U.length<=1000)(hq:r.q.length<=4000)(st:q5f):Rets P F.q1i [.agg (q59 ap r)] st (.int 0):=by
 have ho:=h.roomOK hap hn hU hq
 have:=k7v r.peers (r.q.map q6d) ap (fun _ l hl=>by have:=(h.peer hl).2; omega) (by rw [List.length_map]; omega) (fun p hp=>by
  obtain⟨x,hx,rfl⟩:=List.mem_map.1 hp
  have:=k04 (h.q x hx).2.2.2.1
  show (msg x.2.2).length<=_
  omega) hap.1 true ⟨fun _=>ho,fun _=>rfl⟩ st
 rw [if_pos rfl] at this
 exact this
theorem j55 {r:PR Note}{n:Nat}{U:List Note}(h:InR r n U)(hn:1<=n/\n<=24)(hU:U.length<=1000)(hq:r.q.length<=4000)(st:q5f):Rets P F.q1i [.agg (z31 r)] st (.int 0):=q6z j54 h hn hU hq st
end Go.Proofs.YtmlmoaimjifpgaaGreat
