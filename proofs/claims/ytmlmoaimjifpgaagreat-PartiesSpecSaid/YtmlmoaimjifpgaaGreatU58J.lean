/- Sorting Decisions: merging, whole; insertion; sorting. -/
import Derived.Test.YtmlmoaimjifpgaaGreatU58H
namespace Go.Proofs.YtmlmoaimjifpgaaGreat
open Go.Pv
set_option maxRecDepth 100000
set_option maxHeartbeats 4000000
namespace SortDecision
def K (l:List Decision)(i:Nat):Int:=key (l.getD i default)
theorem K_at {l P R:List Decision}{z:Decision}{i:Nat}(hl:l=P++z::R)(hi:P.length=i):K l i=key z:=by
 subst hl; subst hi
 simp [K]
theorem K_get {l:List Decision}{i:Nat}(h:i<l.length):K l i=key l[i]:=by simp [K,h]
theorem sym_plan {l l2 X A B Y:List Decision}{x m y mid s e:Nat}(hl:l=X++A++B++Y)(hl2:l2=X++srt key (A++B)++Y)(hX:X.length=x)(hm:x+A.length=m)(hy:m+B.length=y)(hA:Srtd key A)(hB:Srtd key B)
  (hs1:x<=s) (hs2:s<=m) (he1:m<=e) (he2:e<=y) (hmid:mid=s+(e-m)) (F1:s=x\/e=y\/K l (s-1)<=K l e) (F2:s=m\/e=m\/K l (e-1)<K l s) :
  ∃ l3 l4,l3.length=l.length/\l4.length=l.length/\(s<m->m<e->RotD l l3 s m e)/\(¬ (s<m/\m<e)->l3=l)/\(x<s->s<mid->MrgD l3 l4 x s mid)/\(¬ (x<s/\s<mid)->l4=l3) ∧
   (mid<e->e<y->MrgD l4 l2 mid e y)/\(¬ (mid<e/\e<y)->l2=l4):=by
 obtain⟨A1,A2,eA,lA1,lA2⟩:=cut_len (A:=A) (k:=s-x) (by omega)
 obtain⟨B1,B2,eB,lB1,lB2⟩:=cut_len (A:=B) (k:=e-m) (by omega)
 have hA':Srtd key (A1++A2):=eA ▸ hA
 have hB':Srtd key (B1++B2):=eB ▸ hB
 have h1:∀ a ∈ A1,∀ b ∈ B2,key a<=key b:=by
  intro a ha b hb
  rcases F1 with F | F | F
  ·have:A1=[]:=List.length_eq_zero_iff.1 (by omega)
   subst this; simp at ha
  ·have:B2=[]:=List.length_eq_zero_iff.1 (by omega)
   subst this; simp at hb
  ·rcases List.eq_nil_or_concat A1 with h |⟨A1',a',h⟩
   ·subst h; simp at ha
   rcases B2 with _ |⟨b',B2'⟩
   ·simp at hb
   rw [List.concat_eq_append] at h
   have k1:K l (s-1)=key a':=K_at (P:=X++A1') (R:=A2++B++Y) (by rw [hl,eA,h]; simp) (by rw [h] at lA1; simp at lA1 ⊢; omega)
   have k2:K l e=key b':=K_at (P:=X++A++B1) (R:=B2'++Y) (by rw [hl,eB]; simp) (by simp; omega)
   rw [k1,k2] at F
   have e1:key a<=key a':=by
    rw [h] at ha hA'
    rcases List.mem_append.1 ha with ha | ha
    ·exact hA'.left.le ha (by simp)
    ·simp at ha; subst ha; exact Int.le_refl _
   have e2:key b'<=key b:=by
    rcases List.mem_cons.1 hb with rfl | hb
    ·exact Int.le_refl _
    ·exact (List.pairwise_cons.1 hB'.right).1 b hb
   omega
 have h2:∀ a ∈ A2,∀ b ∈ B1,key b<key a:=by
  intro a ha b hb
  rcases F2 with F | F | F
  ·have:A2=[]:=List.length_eq_zero_iff.1 (by omega)
   subst this; simp at ha
  ·have:B1=[]:=List.length_eq_zero_iff.1 (by omega)
   subst this; simp at hb
  ·rcases List.eq_nil_or_concat B1 with h |⟨B1',b',h⟩
   ·subst h; simp at hb
   rcases A2 with _ |⟨a',A2'⟩
   ·simp at ha
   rw [List.concat_eq_append] at h
   have k1:K l (e-1)=key b':=K_at (P:=X++A++B1') (R:=B2++Y) (by rw [hl,eB,h]; simp) (by rw [h] at lB1; simp at lB1 ⊢; omega)
   have k2:K l s=key a':=K_at (P:=X++A1) (R:=A2'++B++Y) (by rw [hl,eA]; simp) (by simp; omega)
   rw [k1,k2] at F
   have e1:key b<=key b':=by
    rw [h] at hb hB'
    rcases List.mem_append.1 hb with hb | hb
    ·exact hB'.left.le hb (by simp)
    ·simp at hb; subst hb; exact Int.le_refl _
   have e2:key a'<=key a:=by
    rcases List.mem_cons.1 ha with rfl | ha
    ·exact Int.le_refl _
    ·exact (List.pairwise_cons.1 hA'.right).1 a ha
   omega
 have hparts:=z5p hA' hB' h1 h2
 have e2:l2=X++srt key (A1++B1)++srt key (A2++B2)++Y:=by rw [hl2,eA,eB,<-hparts]; simp
 have e1:l=X++A1++A2++B1++B2++Y:=by rw [hl,eA,eB]; simp
 have nil1:¬ (x<s/\s<mid)->srt key (A1++B1)=A1++B1:=fun h=>by
  have:A1.length=0\/B1.length=0:=by omega
  rcases this with h | h <;> (have:=List.length_eq_zero_iff.1 h; subst this; simp only [List.nil_append,List.append_nil])
  ·exact q7y hB'.left
  ·exact q7y hA'.left
 have nil2:¬ (mid<e/\e<y)->srt key (A2++B2)=A2++B2:=fun h=>by
  have:A2.length=0\/B2.length=0:=by omega
  rcases this with h | h <;> (have:=List.length_eq_zero_iff.1 h; subst this; simp only [List.nil_append,List.append_nil])
  ·exact q7y hB'.right
  ·exact q7y hA'.right
 refine⟨X++A1++B1++A2++B2++Y,X++srt key (A1++B1)++A2++B2++Y,by rw [e1]; simp; omega,by rw [e1]; simp; omega,fun h3 h4=>?_,fun h3=>?_,fun h3 h4=>?_,fun h3=>?_,fun h3 h4=>?_,fun h3=>?_⟩
 ·exact⟨X++A1,A2,B1,B2++Y,by rw [e1]; simp,by simp,by simp; omega,by omega,by omega,by omega,by omega⟩
 ·have:A2.length=0\/B1.length=0:=by omega
  rcases this with h | h <;> (have:=List.length_eq_zero_iff.1 h; subst this; rw [e1]; simp)
 ·exact⟨X,A1,B1,A2++B2++Y,by simp,by simp,hX,by omega,by omega,by omega,by omega,hA'.left,hB'.left⟩
 ·rw [nil1 h3]; simp
 ·exact⟨X++srt key (A1++B1),A2,B2,Y,by simp,by rw [e2],by simp; omega,by omega,by omega,by omega,by omega,hA'.right,hB'.right⟩
 ·rw [e2,nil2 h3]; simp
theorem symMerge_spec {C:List PV}{b cap N:Nat}(hN2:N<=100000)(st:q5f):∀ (n:Nat) {l l2:List Decision} {x m y:Nat},y-x<=n->l.length=N->MrgD l l2 x m y ->
  Does P F.q0a [.own b 0 N cap,.int (x:Nat),.int (m:Nat),.int (y:Nat),cmpF] ((b,rowO l C)::st) (.tuple []) ((b,rowO l2 C)::st):=by
 intro n
 induction n with
 | zero=>intro l l2 x m y h1 hN h2; have:=h2.le hN; omega
 | succ n ih=>
 intro l l2 x m y hn hN hD
 have hle:=hD.le hN
 obtain⟨X,A,B,Y,hl,hl2,hX,hm,hy,hA0,hB0,hA,hB⟩:=hD
 by_cases hA1:A.length=1
 ·obtain⟨u,rfl⟩:=List.length_eq_one_iff.1 hA1
  exact mrg_one hN hN2 hl hl2 hX (by simpa using hm) hy hB0 hB st
 by_cases hB1:B.length=1
 ·obtain⟨u,rfl⟩:=List.length_eq_one_iff.1 hB1
  exact mrg_last hN hN2 hl hl2 hX hm (by simpa using hy) hA1 hA st
 have plan:=fun mid s e=>sym_plan (mid:=mid) (s:=s) (e:=e) hl hl2 hX hm hy hA hB
 obtain⟨mid,w1,w2,w3,hmid⟩:=mid_of (i:=x) (j:=y) (by omega)
 obtain⟨pa,hpa⟩:∃ pa,pa=A.length:=⟨_,rfl⟩
 obtain⟨pb,hpb⟩:∃ pb,pb=B.length:=⟨_,rfl⟩
 obtain⟨nn,hnn⟩:∃ nn,nn=mid+m:=⟨_,rfl⟩
 obtain⟨p,hp⟩:∃ p,p=nn-1:=⟨_,rfl⟩
 have hw1:IntKind.i64.wrap ((m:Int)-x)=(pa:Int):=by rw [q5l (by omega) (by omega)]; omega
 have hw2:IntKind.i64.wrap ((y:Int)-m)=(pb:Int):=by rw [q5l (by omega) (by omega)]; omega
 have hpa1:¬ (pa:Int)=1:=by omega
 have hpb1:¬ (pb:Int)=1:=by omega
 have hwn:IntKind.i64.wrap ((mid:Int)+m)=(nn:Int):=by rw [q5l (by omega) (by omega)]; omega
 have hwp:IntKind.i64.wrap ((nn:Int)-1)=(p:Int):=by rw [q5l (by omega) (by omega)]; omega
 obtain⟨s0,r0,hb⟩:∃ s0 r0:Nat,(mid<m/\IntKind.i64.wrap ((nn:Int)-y)=(s0:Int)/\s0=nn-y/\r0=mid)\/(m<=mid/\s0=x/\r0=m):=by
  rcases Nat.lt_or_ge mid m with h | h
  ·exact⟨nn-y,mid,.inl ⟨h,by rw [q5l (by omega) (by omega)]; omega,rfl,rfl⟩⟩
  ·exact⟨x,m,.inr ⟨h,rfl,rfl⟩⟩
 have hsr:Hid (x<=s0/\s0<=r0/\r0<=m/\r0<=mid/\nn-r0<=y/\m<=nn-r0/\nn-s0<=y/\(s0=x\/nn-s0=y)/\(r0=m\/nn-r0=m)/\mid<y/\x<mid/\mid-x<=n/\y-mid<=n/\1<=nn/\p=nn-1/\nn=mid+m/\0<r0):=by
  constructor
  rcases hb with⟨h1,h2,h3,h4⟩|⟨h1,h3,h4⟩ <;> omega
 have hb':(mid<m/\IntKind.i64.wrap ((nn:Int)-y)=(s0:Int))\/(m<=mid/\True):=by
  rcases hb with⟨h1,h2,h3,h4⟩|⟨h1,h3,h4⟩
  ·exact .inl ⟨h1,h2⟩
  ·exact .inr ⟨h1,trivial⟩
 have hb3:Hid ((mid<m->mid=r0)/\(m<=mid->x=s0/\m=r0)):=by
  constructor
  rcases hb with⟨h1,h2,h3,h4⟩|⟨h1,h3,h4⟩ <;> omega
 clear hl hl2 hX hm hy hA hB hpa hpb hp hnn hmid hb hA1 hB1 hA0 hB0
 refine H.q0a.view q5n rfl rfl ?_
 have body:∀ s r:Nat,s0<=s/\s<=r/\r<=r0/\(s=s0\/K l (s-1)<=K l (nn-s))/\(r=r0\/K l (p-r)<K l r)->s<r->∃ h q:Nat,∃ z v:Decision,Hid (s<=h/\h<r/\q<N/\h<N)/\IntKind.i64.wrap ((s:Int)+r)=(s:Int)+r/\IntKind.u64.wrap ((s:Int)+r)=(s:Int)+r ∧
   IntKind.i64.wrap (((s:Int)+r).fdiv (2 ^ min 1 IntKind.u64.bits))=(h:Int)/\IntKind.i64.wrap ((h:Int)+1)=(h:Int)+1/\IntKind.i64.wrap ((p:Int)-h)=(q:Int)/\(∀ h':h<l.length,l[h]=z)/\(∀ h':q<l.length,l[q]=v) ∧
   (key v<key z->s0<=s/\s<=h/\h<=r0/\(s=s0\/K l (s-1)<=K l (nn-s))/\(h=r0\/K l (p-h)<K l h)) ∧
   (key z<=key v->s0<=h+1/\h+1<=r/\r<=r0/\(h+1=s0\/K l (h+1-1)<=K l (nn-(h+1)))/\(r=r0\/K l (p-r)<K l r)):=by
  rintro s r ⟨i1,i2,i3,i4,i5⟩ hsr2
  obtain⟨k1,k2,k3,k4,k5,k6,k7,k8,k9,k10,k11,k12,k13,k14,k15,k16,k17⟩:=hsr.out
  obtain⟨h,w1,w2,w3,hh⟩:=mid_of (i:=s) (j:=r) (by omega)
  have hq1:p-h<l.length:=by omega
  have hh1:h<l.length:=by omega
  refine⟨h,p-h,l[h],l[p-h],⟨by omega,by omega,by omega,by omega⟩,w1,w2,w3,q5i (by omega),by rw [q5l (by omega) (by omega)]; omega,fun _=>rfl,fun _=>rfl,fun hz=>⟨i1,by omega,by omega,i4,.inr ?_⟩,fun hz=>⟨by omega,by omega,i3,.inr ?_,i5⟩⟩
  ·rw [K_get hq1,K_get hh1]; exact hz
  ·rw [show h+1-1=h by omega,show nn-(h+1)=p-h by omega,K_get hq1,K_get hh1]; exact hz
 rcases hb' with⟨hb1,hb2⟩|⟨hb1,hb2⟩
 all_goals
  repeat' (first 
   | (with_reducible refine And.intro (fun h=>?_) ?_) <;> (try (exfalso; omega))
   | (simp -dsimp -implicitDefEqProofs [*]))
  refine q5h (fun s:Nat × Nat=>[(0,.own b 0 N cap),(1,.int (x:Nat)),(2,.int (m:Nat)),(3,.int (y:Nat)),(4,cmpF),(18,.int (mid:Nat)),(19,.int (nn:Nat)),(20,.int (s.1:Nat)),(21,.int (s.2:Nat)),(22,.int (p:Nat))]) (fun _=>(b,rowO l C)::st)
   (fun s=>s0<=s.1/\s.1<=s.2/\s.2<=r0/\(s.1=s0\/K l (s.1-1)<=K l (nn-s.1))/\(s.2=r0\/K l (p-s.2)<K l s.2)) (fun s=>s.2-s.1) (s0,r0) ⟨Nat.le_refl _,hsr.out.2.1,Nat.le_refl _,.inl rfl,.inl rfl⟩ (by simp [*]; have:=hb3.out; omega) (by simp) ?_
  rintro⟨s,r⟩ hi
  simp only at hi
  clear hb1 hb2 hb3 w1 w2 w3 hw1 hw2 hwn hwp hpa1 hpb1
  by_cases hij:s<r
  ·obtain⟨c,q,z,v,a1,a2,a3,a4,a5,a6,a7,a8,a9,a10⟩:=body s r hi hij
   clear plan body ih hi
   have a11:=a1.out
   repeat' (first 
    | (with_reducible refine Rets.xcall (by_spec _ _ _) ?_)
    | (with_reducible refine DrawLate.intro [] ?_)
    | (with_reducible refine And.intro (fun h=>?_) (fun h=>?_)) <;> (try (exfalso; omega))
    | (simp -dsimp -implicitDefEqProofs [*]))
   ·exact Next.intro (s,c) (a9 ‹_›) (by simp only; omega) (by simp) q5o
   ·exact Next.intro (c+1,r) (a10 ‹_›) (by simp only; omega) (by simp) q5o
  obtain⟨k1,k2,k3,k4,k5,k6,k7,k8,k9,k10,k11,k12,k13,k14,k15,k16,k17⟩:=hsr.out
  obtain⟨i1,i2,i3,i4,i5⟩:=hi
  obtain⟨e,he⟩:∃ e,e=nn-s:=⟨_,rfl⟩
  have hse:s=r:=by omega
  have hwe:IntKind.i64.wrap ((nn:Int)-s)=(e:Int):=by rw [q5l (by omega) (by omega)]; omega
  have F1:s=x\/e=y\/K l (s-1)<=K l e:=by
   rcases i4 with h | h
   ·rcases k8 with h' | h'
    ·exact .inl (by omega)
    ·exact .inr (.inl (by omega))
   ·exact .inr (.inr (by rw [he]; exact h))
  have F2:s=m\/e=m\/K l (e-1)<K l s:=by
   rcases i5 with h | h
   ·rcases k9 with h' | h'
    ·exact .inl (by omega)
    ·exact .inr (.inl (by omega))
   ·exact .inr (.inr (by rw [show e-1=p-r by omega,hse]; exact h))
  obtain⟨l3,l4,hl3,hl4,p1,p2,p3,p4,p5,p6⟩:=plan mid s e (by omega) (by omega) (by omega) (by omega) (by omega) F1 F2
  rw [hN] at hl3 hl4
  clear F1 F2 plan body i4 i5 he hse hsr k8 k9 k15 k16
  by_cases c1:s<m/\m<e
  ·have r1:=rotD_spec (C:=C) (b:=b) (cap:=cap) hN hN2 (p1 c1.1 c1.2) st
   by_cases c2:x<s/\s<mid
   ·have r2:=ih (l:=l3) (l2:=l4) (x:=x) (m:=s) (y:=mid) (by omega) hl3 (p3 c2.1 c2.2)
    by_cases c3:mid<e/\e<y
    ·have r3:=ih (l:=l4) (l2:=l2) (x:=mid) (m:=e) (y:=y) (by omega) hl4 (p5 c3.1 c3.2)
     clear p1 p2 p3 p4 p5 p6 ih
     repeat' (first 
      | (with_reducible refine Does.xcall (r1) ?_)
      | (with_reducible refine Does.xcall (r2) ?_)
      | (with_reducible refine Does.xcall (r3) ?_)
      | (simp -dsimp -implicitDefEqProofs [*]))
     all_goals exact .drop (StLe.refl _) ⟨rfl,rfl⟩
    ·have q3:=p6 c3
     subst q3
     clear p1 p2 p3 p4 p5 p6 ih
     repeat' (first 
      | (with_reducible refine Does.xcall (r1) ?_)
      | (with_reducible refine Does.xcall (r2) ?_)
      | (with_reducible refine And.intro (fun h=>?_) (fun h=>?_)) <;> (try (exfalso; omega))
      | (simp -dsimp -implicitDefEqProofs [*]))
     all_goals exact .drop (StLe.refl _) ⟨rfl,rfl⟩
   ·have q2:=p4 c2
    subst q2
    by_cases c3:mid<e/\e<y
    ·have r3:=ih (l:=l4) (l2:=l2) (x:=mid) (m:=e) (y:=y) (by omega) hl4 (p5 c3.1 c3.2)
     clear p1 p2 p3 p4 p5 p6 ih
     repeat' (first 
      | (with_reducible refine Does.xcall (r1) ?_)
      | (with_reducible refine Does.xcall (r3) ?_)
      | (with_reducible refine And.intro (fun h=>?_) (fun h=>?_)) <;> (try (exfalso; omega))
      | (simp -dsimp -implicitDefEqProofs [*]))
     all_goals exact .drop (StLe.refl _) ⟨rfl,rfl⟩
    ·have q3:=p6 c3
     subst q3
     clear p1 p2 p3 p4 p5 p6 ih
     repeat' (first 
      | (with_reducible refine Does.xcall (r1) ?_)
      | (with_reducible refine And.intro (fun h=>?_) (fun h=>?_)) <;> (try (exfalso; omega))
      | (simp -dsimp -implicitDefEqProofs [*]))
     all_goals exact .drop (StLe.refl _) ⟨rfl,rfl⟩
  ·have q1:=p2 c1
   subst q1
   by_cases c2:x<s/\s<mid
   ·have r2:=ih (l:=l3) (l2:=l4) (x:=x) (m:=s) (y:=mid) (by omega) hl3 (p3 c2.1 c2.2)
    by_cases c3:mid<e/\e<y
    ·have r3:=ih (l:=l4) (l2:=l2) (x:=mid) (m:=e) (y:=y) (by omega) hl4 (p5 c3.1 c3.2)
     clear p1 p2 p3 p4 p5 p6 ih
     repeat' (first 
      | (with_reducible refine Does.xcall (r2) ?_)
      | (with_reducible refine Does.xcall (r3) ?_)
      | (with_reducible refine And.intro (fun h=>?_) (fun h=>?_)) <;> (try (exfalso; omega))
      | (simp -dsimp -implicitDefEqProofs [*]))
     all_goals exact .drop (StLe.refl _) ⟨rfl,rfl⟩
    ·have q3:=p6 c3
     subst q3
     clear p1 p2 p3 p4 p5 p6 ih
     repeat' (first 
      | (with_reducible refine Does.xcall (r2) ?_)
      | (with_reducible refine And.intro (fun h=>?_) (fun h=>?_)) <;> (try (exfalso; omega))
      | (simp -dsimp -implicitDefEqProofs [*]))
     all_goals exact .drop (StLe.refl _) ⟨rfl,rfl⟩
   ·have q2:=p4 c2
    subst q2
    by_cases c3:mid<e/\e<y
    ·have r3:=ih (l:=l4) (l2:=l2) (x:=mid) (m:=e) (y:=y) (by omega) hl4 (p5 c3.1 c3.2)
     clear p1 p2 p3 p4 p5 p6 ih
     repeat' (first 
      | (with_reducible refine Does.xcall (r3) ?_)
      | (with_reducible refine And.intro (fun h=>?_) (fun h=>?_)) <;> (try (exfalso; omega))
      | (simp -dsimp -implicitDefEqProofs [*]))
     all_goals exact .drop (StLe.refl _) ⟨rfl,rfl⟩
    ·have q3:=p6 c3
     subst q3
     clear p1 p2 p3 p4 p5 p6 ih
     repeat' (first 
      | (with_reducible refine And.intro (fun h=>?_) (fun h=>?_)) <;> (try (exfalso; omega))
      | (simp -dsimp -implicitDefEqProofs [*]))
     all_goals exact .drop (StLe.refl _) ⟨rfl,rfl⟩
end SortDecision
open Go.Pv
set_option maxRecDepth 100000
set_option maxHeartbeats 4000000
namespace SortDecision
def Full (bs:Nat)(Ds:List (List Decision)):Prop:=∀ c ∈ Ds,c.length=bs/\Srtd key c
theorem Full.snoc {bs:Nat}{Ds:List (List Decision)}{c:List Decision}(h:Full bs Ds)(h1:c.length=bs)(h2:Srtd key c):Full bs (Ds++[c]):=fun d hd=>by
 rcases List.mem_append.1 hd with hd | hd
 ·exact h d hd
 ·simp at hd; subst hd; exact⟨h1,h2⟩
theorem Full.len {bs:Nat}:∀ {Ds:List (List Decision)},Full bs Ds->Ds.flatten.length=Ds.length*bs
 | [],_=>by simp
 | c::Ds,h=>by
  have h1:=Full.len (Ds:=Ds) fun d hd=>h d (by simp [hd])
  rw [List.flatten_cons,List.length_append,h1,(h c (by simp)).1,List.length_cons,Nat.succ_mul]; omega
def Beg (l:List Decision)(a:Nat)(l':List Decision):Prop:=∃ Ds,Full 20 Ds/\l'=Ds.flatten++l.drop a/\Stb key (l.take a) Ds.flatten/\Ds.flatten.length=a
def CutS (bs:Nat)(l l':List Decision):Prop:=∃ Cs last,l'=Cs.flatten++last/\Full bs Cs/\Srtd key last/\last.length<bs/\Stb key l l'
def MidS (bs:Nat)(l:List Decision)(a:Nat)(l':List Decision):Prop:=∃ Ds Cs last,l'=Ds.flatten++(Cs.flatten++last)/\Full (2*bs) Ds/\Full bs Cs/\Srtd key last/\last.length<bs/\Stb key l l'/\Ds.flatten.length=a
theorem Beg.step {l l':List Decision}{a:Nat}(h:Beg l a l')(ha:a+20<=l.length):∃ X L Y l3,l'=X++L++Y/\l3=X++srt key L++Y/\X.length=a/\a+L.length=a+20/\l3.length=l'.length/\Beg l (a+20) l3:=by
 obtain⟨Ds,h1,h2,h3,h4⟩:=h
 have e:l.drop a=(l.drop a).take 20++l.drop (a+20):=by rw [<-List.drop_drop,List.take_append_drop]
 have hl:((l.drop a).take 20).length=20:=by simp; omega
 refine⟨Ds.flatten,(l.drop a).take 20,l.drop (a+20),_,by rw [h2,List.append_assoc,<-e],rfl,h4,by omega, ?_,Ds++[srt key ((l.drop a).take 20)],h1.snoc (by simpa using hl) (q7d _),by simp, ?_,by rw [List.flatten_append,List.length_append,h4]; simp; omega⟩
 ·rw [h2]; simp; omega
 ·rw [List.take_add,List.flatten_append]
  exact h3.app (by simpa using q8m _)
theorem Beg.fin {l l':List Decision}{a:Nat}(h:Beg l a l')(ha:l.length<a+20)(ha2:a<=l.length):∃ X L Y l3,l'=X++L++Y/\l3=X++srt key L++Y/\X.length=a/\a+L.length=l.length/\l3.length=l'.length/\CutS 20 l l3:=by
 obtain⟨Ds,h1,h2,h3,h4⟩:=h
 refine⟨Ds.flatten,l.drop a,[],Ds.flatten++srt key (l.drop a),by simp [h2],by simp,h4,by simp; omega,by rw [h2]; simp,Ds,srt key (l.drop a),rfl,h1,q7d _,by simp; omega, ?_⟩
 have:=h3.app (q8m (key:=key) (l.drop a))
 rwa [List.take_append_drop] at this
theorem CutS.mid {bs:Nat}{l l':List Decision}(h:CutS bs l l'):MidS bs l 0 l':=by
 obtain⟨Cs,last,h1,h2,h3,h4,h5⟩:=h
 exact⟨[],Cs,last,by simpa using h1,by simp [Full],h2,h3,h4,h5,rfl⟩
theorem MidS.step {bs:Nat}{l l':List Decision}{a:Nat}(h:MidS bs l a l')(hb:0<bs)(ha:a+2*bs<=l'.length):∃ l3,MrgD l' l3 a (a+bs) (a+2*bs)/\l3.length=l'.length/\MidS bs l (a+2*bs) l3:=by
 obtain⟨Ds,Cs,last,h1,h2,h3,h4,h5,h6,h7⟩:=h
 have hlen:=congrArg List.length h1
 rw [List.length_append,List.length_append,h3.len,h7] at hlen
 rcases Cs with _ |⟨c1,_ |⟨c2,Cs⟩⟩
 ·simp at hlen; omega
 ·simp at hlen; omega
 obtain⟨l1,s1⟩:=h3 c1 (by simp)
 obtain⟨l2,s2⟩:=h3 c2 (by simp)
 have e1:l'=Ds.flatten++c1++c2++(Cs.flatten++last):=by rw [h1]; simp
 refine⟨Ds.flatten++srt key (c1++c2)++(Cs.flatten++last),⟨Ds.flatten,c1,c2,Cs.flatten++last,e1,rfl,h7,by omega,by omega,by omega,by omega,s1,s2⟩,by rw [e1]; simp; omega,
  Ds++[srt key (c1++c2)],Cs,last,by simp,h2.snoc (by simp; omega) (q7d _),fun c hc=>h3 c (by simp [hc]),h4,h5, ?_,by rw [List.flatten_append,List.length_append,h7]; simp; omega⟩
 refine h6.trans ?_
 rw [e1,List.append_assoc Ds.flatten c1 c2]
 exact Stb.app (Stb.app (.refl _) (q8m _)) (.refl _)
theorem MidS.fin {bs:Nat}{l l':List Decision}{a:Nat}(h:MidS bs l a l')(hb:0<bs)(ha:l'.length<a+2*bs):(a+bs<l'.length->∃ l3,MrgD l' l3 a (a+bs) l'.length/\l3.length=l'.length/\CutS (2*bs) l l3)/\(l'.length<=a+bs->CutS (2*bs) l l'):=by
 obtain⟨Ds,Cs,last,h1,h2,h3,h4,h5,h6,h7⟩:=h
 have hlen:=congrArg List.length h1
 rw [List.length_append,List.length_append,h3.len,h7] at hlen
 rcases Cs with _ |⟨c1,_ |⟨c2,Cs⟩⟩
 ·simp at hlen
  exact⟨fun h=>by omega,fun h=>⟨Ds,last,by simpa using h1,h2,h4,by omega,h6⟩⟩
 ·simp at hlen
  obtain⟨l1,s1⟩:=h3 c1 (by simp)
  have e1:l'=Ds.flatten++c1++last++[]:=by rw [h1]; simp
  constructor
  ·intro h
   refine⟨Ds.flatten++srt key (c1++last)++[],⟨Ds.flatten,c1,last,[],e1,rfl,h7,by omega,by omega,by omega,by omega,s1,h4⟩,by rw [e1]; simp,Ds,srt key (c1++last),by simp,h2,q7d _,by simp; omega, ?_⟩
   refine h6.trans ?_
   rw [e1,List.append_assoc Ds.flatten c1 last]
   exact Stb.app (Stb.app (.refl _) (q8m _)) (.refl _)
  ·intro h
   have:last=[]:=List.length_eq_zero_iff.1 (by omega)
   subst this
   exact⟨Ds,c1,by rw [h1]; simp,h2,s1,by omega,h6⟩
 ·have:(Cs.length+1+1)*bs=Cs.length*bs+bs+bs:=by rw [Nat.succ_mul,Nat.succ_mul]
  simp at hlen; omega
theorem CutS.fin {bs:Nat}{l l':List Decision}(h:CutS bs l l')(hb:l'.length<=bs)(hb0:0<bs):l'=srt key l:=by
 obtain⟨Cs,last,h1,h2,h3,h4,h5⟩:=h
 refine k2b ?_ h5
 have hlen:=congrArg List.length h1
 rw [List.length_append,h2.len] at hlen
 rcases Cs with _ |⟨c1,_ |⟨c2,Cs⟩⟩
 ·rw [h1]; simpa using h3
 ·simp at hlen
  have:last=[]:=List.length_eq_zero_iff.1 (by omega)
  subst this
  rw [h1]
  simpa using (h2 c1 (by simp)).2
 ·have:(Cs.length+1+1)*bs=Cs.length*bs+bs+bs:=by rw [Nat.succ_mul,Nat.succ_mul]
  simp at hlen; omega
theorem stable_spec {l:List Decision}{C:List PV}{b cap N:Nat}(hN:l.length=N)(hN2:N<=100000)(st:q5f) :
  Does P F.q0t [.own b 0 N cap,.int (N:Nat),cmpF] ((b,rowO l C)::st) (.tuple []) ((b,rowO (srt key l) C)::st):=by
 refine H.q0t.view q5n rfl rfl ?_
 repeat' (simp -dsimp -implicitDefEqProofs [*])
 refine q5h (fun s:(Nat × Nat) × List Decision=>[(0,.own b 0 N cap),(1,.int (N:Nat)),(2,cmpF),(6,.int 20),(7,.int (s.1.1:Nat)),(8,.int (s.1.2:Nat))]) (fun s=>(b,rowO s.2 C)::st)
  (fun s=>s.1.1<=N/\s.1.2=s.1.1+20/\s.2.length=N/\Beg l s.1.1 s.2) (fun s=>N-s.1.1) ((0,20),l) ⟨Nat.zero_le _,rfl,hN,[],by simp [Full],by simp,by simp [Stb],rfl⟩ (by simp) (by simp) ?_
 rintro⟨⟨a,z⟩,l'⟩ ⟨ha,hz,hlen',hB⟩
 simp only at ha hz hlen' hB
 by_cases haz:z<=N
 ·obtain⟨X,L,Y,l3,e1,e2,e3,e4,e5,e6⟩:=hB.step (by omega)
  rw [hlen'] at e5
  rw [<-hz] at e4 e6
  have hs:=insertion_spec (C:=C) (b:=b) (cap:=cap) hlen' hN2 e1 e2 e3 e4 st
  obtain⟨z2,hz2⟩:∃ z2,z2=z+20:=⟨_,rfl⟩
  have hwz:IntKind.i64.wrap ((z:Int)+20)=(z2:Int):=by rw [q5l (by omega) (by omega)]; omega
  have haz2:a<z:=by omega
  have hH:Hid (z2=z+20):=⟨hz2⟩
  clear e1 e2 e3 e4 hz hz2 hN hB
  repeat' (first 
   | (with_reducible refine Does.xcall (hs) ?_)
   | (simp -dsimp -implicitDefEqProofs [*]))
  exact Next.intro ((z,z2),l3) ⟨haz,hH.out,e5,e6⟩ (by simp only; omega) (by simp) q5o
 obtain⟨X,L,Y,l3,e1,e2,e3,e4,e5,e6⟩:=hB.fin (by omega) (by omega)
 rw [hlen'] at e5
 rw [hN] at e4
 have hs:=insertion_spec (C:=C) (b:=b) (cap:=cap) hlen' hN2 e1 e2 e3 e4 st
 clear e1 e2 e3 e4 hz hB
 repeat' (first 
  | (with_reducible refine Does.xcall (hs) ?_)
  | (simp -dsimp -implicitDefEqProofs [*]))
 refine q5h (fun s:Nat × List Decision=>[(0,.own b 0 N cap),(1,.int (N:Nat)),(2,cmpF),(6,.int (s.1:Nat))]) (fun s=>(b,rowO s.2 C)::st)
  (fun s=>20<=s.1/\s.1<=2*N+20/\s.2.length=N/\CutS s.1 l s.2) (fun s=>N-s.1) (20,l3) ⟨Nat.le_refl _,by simp only; omega,e5,e6⟩ (by simp) (by simp) ?_
 clear hs e5 e6 hlen' haz ha
 rintro⟨bs,l4⟩ ⟨hbs,hbs2,hl4,hC⟩
 simp only at hbs hbs2 hl4 hC
 by_cases hbN:bs<N
 ·obtain⟨b2,hb2⟩:∃ b2,b2=2*bs:=⟨_,rfl⟩
  have hwb:IntKind.i64.wrap (2*(bs:Int))=(b2:Int):=by rw [q5l (by omega) (by omega)]; omega
  have hwb2:IntKind.i64.wrap ((bs:Int)*2)=(b2:Int):=by rw [q5l (by omega) (by omega)]; omega
  have hM:=hC.mid
  have hH2:Hid (b2=2*bs):=⟨hb2⟩
  clear hb2 hC
  repeat' (simp -dsimp -implicitDefEqProofs [*])
  refine q5h (fun s:(Nat × Nat) × List Decision=>[(0,.own b 0 N cap),(1,.int (N:Nat)),(2,cmpF),(6,.int (bs:Nat)),(7,.int (s.1.1:Nat)),(8,.int (s.1.2:Nat))]) (fun s=>(b,rowO s.2 C)::st)
   (fun s=>s.1.1<=N/\s.1.2=s.1.1+2*bs/\s.2.length=N/\MidS bs l s.1.1 s.2) (fun s=>N-s.1.1) ((0,b2),l4) ⟨Nat.zero_le _,by simp only; have:=hH2.out; omega,hl4,hM⟩ (by simp) (by simp) ?_
  clear hM hl4
  rintro⟨⟨a,z⟩,l5⟩ ⟨ha,hz,hl5,hM⟩
  simp only at ha hz hl5 hM
  by_cases haz:z<=N
  ·obtain⟨l6,m1,m2,m3⟩:=hM.step (by omega) (by omega)
   obtain⟨m,hm⟩:∃ m,m=a+bs:=⟨_,rfl⟩
   obtain⟨z2,hz2⟩:∃ z2,z2=z+b2:=⟨_,rfl⟩
   have hwm:IntKind.i64.wrap ((a:Int)+bs)=(m:Int):=by rw [q5l (by omega) (by omega)]; omega
   have hH2':=hH2.out
   have hwz:IntKind.i64.wrap ((z:Int)+b2)=(z2:Int):=by rw [q5l (by omega) (by omega)]; omega
   rw [<-hm,<-hz] at m1
   rw [<-hz] at m3
   have hs:=symMerge_spec (C:=C) (b:=b) (cap:=cap) hN2 st (z-a) (Nat.le_refl _) hl5 m1
   rw [hl5] at m2
   have haz2:Hid (a<z/\z2=z+2*bs):=⟨by omega,by omega⟩
   clear m1 hz hz2 hm hM hH2'
   repeat' (first 
    | (with_reducible refine Does.xcall (hs) ?_)
    | (simp -dsimp -implicitDefEqProofs [*]))
   exact Next.intro ((z,z2),l6) ⟨haz,haz2.out.2,m2,m3⟩ (by have:=haz2.out; simp only; omega) (by simp) q5o
  obtain⟨f1,f2⟩:=hM.fin (by omega) (by omega)
  obtain⟨m,hm⟩:∃ m,m=a+bs:=⟨_,rfl⟩
  have hwm:IntKind.i64.wrap ((a:Int)+bs)=(m:Int):=by rw [q5l (by omega) (by omega)]; omega
  rw [<-hm,hl5] at f1 f2
  by_cases hmN:m<N
  ·obtain⟨l6,m1,m2,m3⟩:=f1 hmN
   have hs:=symMerge_spec (C:=C) (b:=b) (cap:=cap) hN2 st (N-a) (Nat.le_refl _) hl5 m1
   have m3':Hid (CutS b2 l l6/\20<=b2/\b2<=2*N+20/\bs<b2):=⟨by rw [hH2.out]; exact m3,by have:=hH2.out; omega,by have:=hH2.out; omega,by have:=hH2.out; omega⟩
   clear m1 m3 f1 f2 hz hm hM
   repeat' (first 
    | (with_reducible refine Does.xcall (hs) ?_)
    | (simp -dsimp -implicitDefEqProofs [*]))
   exact Next.intro (b2,l6) ⟨m3'.out.2.1,m3'.out.2.2.1,m2,m3'.out.1⟩ (by have:=m3'.out; simp only; omega) (by simp) q5o
  ·have m3':Hid (CutS b2 l l5/\20<=b2/\b2<=2*N+20/\bs<b2):=⟨by rw [hH2.out]; exact f2 (by omega),by have:=hH2.out; omega,by have:=hH2.out; omega,by have:=hH2.out; omega⟩
   clear f1 f2 hz hm hM
   repeat' (simp -dsimp -implicitDefEqProofs [*])
   exact Next.intro (b2,l5) ⟨m3'.out.2.1,m3'.out.2.2.1,hl5,m3'.out.1⟩ (by have:=m3'.out; simp only; omega) (by simp) q5o
 ·have e:l4=srt key l:=hC.fin (by omega) (by omega)
  clear hC
  repeat' (simp -dsimp -implicitDefEqProofs [*])
  exact .drop (StLe.refl _) ⟨rfl,rfl⟩
end SortDecision
end Go.Proofs.YtmlmoaimjifpgaaGreat
