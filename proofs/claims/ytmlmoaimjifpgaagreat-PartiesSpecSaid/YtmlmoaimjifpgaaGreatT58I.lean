/- Sorting Events: merging. -/
import Derived.Test.YtmlmoaimjifpgaaGreatY58D
namespace Go.Proofs.YtmlmoaimjifpgaaGreat
open Go.Pv
set_option maxRecDepth 100000
set_option maxHeartbeats 4000000
namespace SortEvent
section
variable {C:List PV} {b cap N:Nat}
theorem mid_of {i j:Nat}(h:i+j<=200000):∃ m:Nat,IntKind.i64.wrap ((i:Int)+j)=(i:Int)+j/\IntKind.u64.wrap ((i:Int)+j)=(i:Int)+j/\IntKind.i64.wrap (((i:Int)+j).fdiv (2 ^ min 1 IntKind.u64.bits))=(m:Int)/\m=(i+j) / 2:=
 ⟨(i+j) / 2,q5l (by omega) (by omega),q7n (by omega) (by omega),j4n (by omega),rfl⟩
theorem mrg_one {l l2 X B Y:List Event}{u:Event}(hN:l.length=N)(hN2:N<=100000){x m y:Nat}(hl:l=X++[u]++B++Y)(hl2:l2=X++srt key ([u]++B)++Y)(hX:X.length=x)(hm:x+1=m)(hy:m+B.length=y)(hB0:0<B.length)(hB:Srtd key B)(st:q5f) :
  Does P F.q0c [.own b 0 N cap,.int (x:Nat),.int (m:Nat),.int (y:Nat),cmpF] ((b,rowO l C)::st) (.tuple []) ((b,rowO l2 C)::st):=by
 have hyN:y<=N:=by
  have:=congrArg List.length hl
  simp at this
  omega
 have hw1:IntKind.i64.wrap ((m:Int)-x)=1:=by rw [q5l (by omega) (by omega)]; omega
 refine H.q0c.view q5n rfl rfl ?_
 have h0:Hid (l=X++[u]++B++Y):=⟨hl⟩
 have h2:Hid (l2=X++srt key ([u]++B)++Y):=⟨hl2⟩
 obtain⟨a1,a2⟩:=at_mid (l:=l) (P:=X) (z:=u) (R:=B++Y) (i:=x) (by rw [hl]; simp) hX
 clear hl hl2
 repeat' (simp -dsimp -implicitDefEqProofs [*])
 refine q5h (fun s:Nat × Nat=>[(0,.own b 0 N cap),(1,.int (x:Nat)),(4,cmpF),(10,.int (s.1:Nat)),(11,.int (s.2:Nat))]) (fun _=>(b,rowO l C)::st)
  (fun s=>Src (fun e=>key e<key u) (fun e=>key u<=key e) B m s.1 s.2) (fun s=>s.2-s.1) (m,y) (Src.init hy) (by simp) (by simp) ?_
 rintro⟨i,j⟩ hs
 simp only at hs
 have hle:=hs.le
 obtain⟨h,w1,w2,w3,hh⟩:=mid_of (i:=i) (j:=j) (by omega)
 have w5:=q5i (n:=h) (by omega)
 by_cases hij:i<j
 ·obtain⟨z,z1,z2,z3,z4⟩:=hs.step (h:=h) (X:=X++[u]) (Y:=Y) (l:=l) h0.out (by simp; omega) hB (fun a b h1 h2=>by omega) (fun a b h1 h2=>by omega) (by omega) (by omega)
  have hh2:i<=h/\h<j:=by omega
  clear hh hX hm hw1
  repeat' (first 
   | (with_reducible refine Rets.xcall (by_spec _ _ _) ?_)
   | (with_reducible refine DrawLate.intro [] ?_)
   | (with_reducible refine And.intro (fun h=>?_) (fun h=>?_)) <;> (try (exfalso; omega))
   | ((with_reducible refine q5v ?_ fun hk=>?_); omega)
   | (simp -dsimp -implicitDefEqProofs [*]))
  ·exact Next.intro (_,j) (z3 ‹_›) (by simp only; omega) (by simp) q5o
  ·exact Next.intro (i,_) (z4 ‹_›) (by simp only; omega) (by simp) q5o
 ·obtain⟨B1,B2,e1,e2,e3,e4⟩:=hs.fin (by omega)
  obtain⟨i1,hi1⟩:∃ i1,i1=i-1:=⟨_,rfl⟩
  have hwi:IntKind.i64.wrap ((i:Int)-1)=(i1:Int):=by rw [q5l (by omega) (by omega)]; omega
  have hlen2:X.length+1+B1.length+B2.length+Y.length=N:=by rw [<-hN,h0.out,e1]; simp; omega
  have hB12:Srtd key (B1++B2):=e1 ▸ hB
  have hres:Hid (l2=X++B1++u::B2++Y):=⟨by rw [h2.out,e1,List.singleton_append,<-z5o hB12 e3 e4]; simp⟩
  have h0':Hid (l=X++B1.take 0++u::(B1.drop 0++B2++Y)):=⟨by rw [h0.out,e1]; simp⟩
  have hb1:i1=x+B1.length:=by omega
  clear e1 e3 e4 hB hB12 h2 h0 w1 w2 w3 w5 hs hh hw1
  repeat' (simp -dsimp -implicitDefEqProofs [*])
  refine q5h (fun s:Nat × List Event=>[(0,.own b 0 N cap),(10,.int (i:Nat)),(13,.int (s.1:Nat))]) (fun s=>(b,rowO s.2 C)::st)
   (fun s=>x<=s.1/\s.1<=i1/\s.2.length=N/\s.2=X++B1.take (s.1-x)++u::(B1.drop (s.1-x)++B2++Y)) (fun s=>i1-s.1) (x,l) ⟨Nat.le_refl _,by simp only; omega,hN,by simpa using h0'.out⟩ (by simp) (by simp) ?_
  rintro⟨k,l'⟩ ⟨hk1,hk2,hlen',hl'⟩
  simp only at hk1 hk2 hlen' hl'
  by_cases hki:k<i1
  ·obtain⟨v,c1,c2⟩:=cut_at (A:=B1) (i:=k-x) (by omega)
   obtain⟨q,hq⟩:∃ q,q=k+1:=⟨_,rfl⟩
   have hwq:IntKind.i64.wrap ((k:Int)+1)=(q:Int):=by rw [hq,q5i (by omega)]; omega
   obtain⟨h1,h2,h3,h4,h5,h6⟩:=swap2 (l:=l') (P:=X++B1.take (k-x)) (x:=u) (Q:=[]) (y:=v) (R:=B1.drop (k-x+1)++B2++Y) (i:=k) (j:=q) (by rw [hl',c1]; simp) (by simp; omega) (by simp; omega)
   have hfin:Hid ((l'.set k v).set q u=X++B1.take (q-x)++u::(B1.drop (q-x)++B2++Y)):=⟨by rw [h3,show q-x=k-x+1 by omega,c2]; simp⟩
   have hqk:k<q/\x<=q/\q<=i1:=by omega
   clear hl' c1 c2 h3 h4 hq hX hm hb1 hlen2 e2 hij
   generalize hl3:(l'.set k v).set q u=l3 at *
   have hlen3:l3.length=N:=by rw [<-hl3]; simp [hlen']
   repeat' (first 
    | (with_reducible refine And.intro (fun h=>?_) (fun h=>?_)) <;> (try (exfalso; omega))
    | (simp -dsimp -implicitDefEqProofs [*]))
   refine DrawLate.intro [b] ?_
   repeat' (first 
    | ((with_reducible refine q5v ?_ fun hk=>?_); omega)
    | (simp -dsimp -implicitDefEqProofs [*]))
   exact Next.intro (q,l3) ⟨hqk.2.1,hqk.2.2,hlen3,hfin.out⟩ (by simp only; omega) (by simp) q5o
  ·have hki2:k-x=B1.length:=by omega
   have e:l'=l2:=by rw [hl',hres.out,hki2]; simp
   clear hl' hb1 hX hm hlen2 e2 hij
   subst e
   repeat' (first 
    | (with_reducible refine And.intro (fun h=>?_) (fun h=>?_)) <;> (try (exfalso; omega))
    | (simp -dsimp -implicitDefEqProofs [*]))
   exact .drop (StLe.refl _) ⟨rfl,rfl⟩
theorem mrg_last {l l2 X A Y:List Event}{u:Event}(hN:l.length=N)(hN2:N<=100000){x m y:Nat}(hl:l=X++A++[u]++Y)(hl2:l2=X++srt key (A++[u])++Y)(hX:X.length=x)(hm:x+A.length=m)(hy:m+1=y)(hA1:¬ A.length=1)(hA:Srtd key A)(st:q5f) :
  Does P F.q0c [.own b 0 N cap,.int (x:Nat),.int (m:Nat),.int (y:Nat),cmpF] ((b,rowO l C)::st) (.tuple []) ((b,rowO l2 C)::st):=by
 have hyN:y<=N:=by
  have:=congrArg List.length hl
  simp at this
  omega
 obtain⟨pa,hpa⟩:∃ pa,pa=A.length:=⟨_,rfl⟩
 have hw1:IntKind.i64.wrap ((m:Int)-x)=(pa:Int):=by rw [q5l (by omega) (by omega)]; omega
 have hpa1:¬ (pa:Int)=1:=by omega
 have hw2:IntKind.i64.wrap ((y:Int)-m)=1:=by rw [q5l (by omega) (by omega)]; omega
 refine H.q0c.view q5n rfl rfl ?_
 have h0:Hid (l=X++A++[u]++Y):=⟨hl⟩
 have h2:Hid (l2=X++srt key (A++[u])++Y):=⟨hl2⟩
 obtain⟨a1,a2⟩:=at_mid (l:=l) (P:=X++A) (z:=u) (R:=Y) (i:=m) (by rw [hl]; simp) (by simp; omega)
 clear hl hl2 hA1 hpa
 repeat' (simp -dsimp -implicitDefEqProofs [*])
 refine q5h (fun s:Nat × Nat=>[(0,.own b 0 N cap),(2,.int (m:Nat)),(4,cmpF),(14,.int (s.1:Nat)),(15,.int (s.2:Nat))]) (fun _=>(b,rowO l C)::st)
  (fun s=>Src (fun e=>key e<=key u) (fun e=>key u<key e) A x s.1 s.2) (fun s=>s.2-s.1) (x,m) (Src.init hm) (by simp) (by simp) ?_
 rintro⟨i,j⟩ hs
 simp only at hs
 have hle:=hs.le
 obtain⟨h,w1,w2,w3,hh⟩:=mid_of (i:=i) (j:=j) (by omega)
 have w5:=q5i (n:=h) (by omega)
 by_cases hij:i<j
 ·obtain⟨z,z1,z2,z3,z4⟩:=hs.step (h:=h) (X:=X) (Y:=[u]++Y) (l:=l) (by rw [h0.out]; simp) (by omega) hA (fun a b h1 h2=>by omega) (fun a b h1 h2=>by omega) (by omega) (by omega)
  have hh2:i<=h/\h<j:=by omega
  clear hh hX hm hw1 hw2 hpa1 hy
  repeat' (first 
   | (with_reducible refine Rets.xcall (by_spec _ _ _) ?_)
   | (with_reducible refine DrawLate.intro [] ?_)
   | (with_reducible refine And.intro (fun h=>?_) (fun h=>?_)) <;> (try (exfalso; omega))
   | ((with_reducible refine q5v ?_ fun hk=>?_); omega)
   | (simp -dsimp -implicitDefEqProofs [*]))
  ·exact Next.intro (i,_) (z4 ‹_›) (by simp only; omega) (by simp) q5o
  ·exact Next.intro (_,j) (z3 ‹_›) (by simp only; omega) (by simp) q5o
 ·obtain⟨A1,A2,e1,e2,e3,e4⟩:=hs.fin (by omega)
  have hlen2:X.length+A1.length+A2.length+1+Y.length=N:=by rw [<-hN,h0.out,e1]; simp; omega
  have hA12:Srtd key (A1++A2):=e1 ▸ hA
  have hres:Hid (l2=X++A1++u::A2++Y):=⟨by rw [h2.out,e1,<-k3r hA12 e3 e4]; simp⟩
  have hmi:m-i=A2.length:=by rw [e1] at hm; simp at hm; omega
  have him:i<=m:=by omega
  have h0':Hid (l=X++A1++A2.take (m-i)++u::(A2.drop (m-i)++Y)):=⟨by rw [h0.out,e1,hmi]; simp⟩
  clear e1 e3 e4 hA hA12 h2 h0 w1 w2 w3 w5 hs hh hw1 hw2 hpa1 hm
  repeat' (simp -dsimp -implicitDefEqProofs [*])
  refine q5h (fun s:Nat × List Event=>[(0,.own b 0 N cap),(14,.int (i:Nat)),(17,.int (s.1:Nat))]) (fun s=>(b,rowO s.2 C)::st)
   (fun s=>i<=s.1/\s.1<=m/\s.2.length=N/\s.2=X++A1++A2.take (s.1-i)++u::(A2.drop (s.1-i)++Y)) (fun s=>s.1) (m,l) ⟨him,Nat.le_refl _,hN,h0'.out⟩ (by simp) (by simp) ?_
  rintro⟨k,l'⟩ ⟨hk1,hk2,hlen',hl'⟩
  simp only at hk1 hk2 hlen' hl'
  by_cases hki:i<k
  ·obtain⟨q,hq⟩:∃ q,q=k-1:=⟨_,rfl⟩
   obtain⟨v,c1,c2⟩:=cut_at (A:=A2) (i:=q-i) (by omega)
   have hwq:IntKind.i64.wrap ((k:Int)-1)=(q:Int):=by rw [q5l (by omega) (by omega)]; omega
   have hqi:q-i+1=k-i:=by omega
   rw [hqi] at c1 c2
   obtain⟨h1,h2,h3,h4,h5,h6⟩:=swap2 (l:=l') (P:=X++A1++A2.take (q-i)) (x:=v) (Q:=[]) (y:=u) (R:=A2.drop (k-i)++Y) (i:=q) (j:=k) (by rw [hl',c2]; simp) (by simp; omega) (by simp; omega)
   have hfin:Hid ((l'.set k v).set q u=X++A1++A2.take (q-i)++u::(A2.drop (q-i)++Y)):=⟨by rw [h4,c1]; simp⟩
   have hqk:q<k/\i<=q/\q<=m:=by omega
   clear hl' c1 c2 h3 h4 hq hX hmi hlen2 e2 hij hqi hy
   generalize hl3:(l'.set k v).set q u=l3 at *
   have hlen3:l3.length=N:=by rw [<-hl3]; simp [hlen']
   repeat' (simp -dsimp -implicitDefEqProofs [*])
   refine DrawLate.intro [b] ?_
   repeat' (first 
    | ((with_reducible refine q5v ?_ fun hk=>?_); omega)
    | (simp -dsimp -implicitDefEqProofs [*]))
   exact Next.intro (q,l3) ⟨hqk.2.1,hqk.2.2,hlen3,hfin.out⟩ (by simp only; omega) (by simp) q5o
  ·have hki2:k-i=0:=by omega
   have e:l'=l2:=by rw [hl',hres.out,hki2]; simp
   clear hl' hmi hX hlen2 e2 hij hy
   subst e
   repeat' (simp -dsimp -implicitDefEqProofs [*])
   exact .drop (StLe.refl _) ⟨rfl,rfl⟩
end
end SortEvent
open Go.Pv
set_option maxRecDepth 100000
set_option maxHeartbeats 4000000
namespace SortEvent
def K (l:List Event)(i:Nat):Int:=key (l.getD i default)
theorem K_at {l P R:List Event}{z:Event}{i:Nat}(hl:l=P++z::R)(hi:P.length=i):K l i=key z:=by
 subst hl; subst hi
 simp [K]
theorem K_get {l:List Event}{i:Nat}(h:i<l.length):K l i=key l[i]:=by simp [K,h]
theorem sym_plan {l l2 X A B Y:List Event}{x m y mid s e:Nat}(hl:l=X++A++B++Y)(hl2:l2=X++srt key (A++B)++Y)(hX:X.length=x)(hm:x+A.length=m)(hy:m+B.length=y)(hA:Srtd key A)(hB:Srtd key B)
  (hs1:x<=s) (hs2:s<=m) (he1:m<=e) (he2:e<=y) (hmid:mid=s+(e-m)) (F1:s=x\/e=y\/K l (s-1)<=K l e) (F2:s=m\/e=m\/K l (e-1)<K l s) :
  ∃ l3 l4,l3.length=l.length/\l4.length=l.length/\(s<m->m<e->RotD l l3 s m e)/\(¬ (s<m/\m<e)->l3=l)/\(x<s->s<mid->MrgD l3 l4 x s mid)/\(¬ (x<s/\s<mid)->l4=l3) ∧
   (mid<e->e<y->MrgD l4 l2 mid e y)/\(¬ (mid<e/\e<y)->l2=l4):=by
 obtain⟨A1,A2,eA,lA1,lA2⟩:=cut_len (A:=A) (k:=s-x) (by omega)
 obtain⟨B1,B2,eB,lB1,lB2⟩:=cut_len (A:=B) (k:=e-m) (by omega)
 have hA':Srtd key (A1++A2):=eA ▸ hA
 have hB':Srtd key (B1++B2):=eB ▸ hB
 have h1:∀ a ∈ A1,∀ b ∈ B2,key a<=key b:=by
  intro a ha b hb
  rcases F1 with F | F | F
  ·have:A1=[]:=List.length_eq_zero_iff.1 (by omega)
   subst this; simp at ha
  ·have:B2=[]:=List.length_eq_zero_iff.1 (by omega)
   subst this; simp at hb
  ·rcases List.eq_nil_or_concat A1 with h |⟨A1',a',h⟩
   ·subst h; simp at ha
   rcases B2 with _ |⟨b',B2'⟩
   ·simp at hb
   rw [List.concat_eq_append] at h
   have k1:K l (s-1)=key a':=K_at (P:=X++A1') (R:=A2++B++Y) (by rw [hl,eA,h]; simp) (by rw [h] at lA1; simp at lA1 ⊢; omega)
   have k2:K l e=key b':=K_at (P:=X++A++B1) (R:=B2'++Y) (by rw [hl,eB]; simp) (by simp; omega)
   rw [k1,k2] at F
   have e1:key a<=key a':=by
    rw [h] at ha hA'
    rcases List.mem_append.1 ha with ha | ha
    ·exact hA'.left.le ha (by simp)
    ·simp at ha; subst ha; exact Int.le_refl _
   have e2:key b'<=key b:=by
    rcases List.mem_cons.1 hb with rfl | hb
    ·exact Int.le_refl _
    ·exact (List.pairwise_cons.1 hB'.right).1 b hb
   omega
 have h2:∀ a ∈ A2,∀ b ∈ B1,key b<key a:=by
  intro a ha b hb
  rcases F2 with F | F | F
  ·have:A2=[]:=List.length_eq_zero_iff.1 (by omega)
   subst this; simp at ha
  ·have:B1=[]:=List.length_eq_zero_iff.1 (by omega)
   subst this; simp at hb
  ·rcases List.eq_nil_or_concat B1 with h |⟨B1',b',h⟩
   ·subst h; simp at hb
   rcases A2 with _ |⟨a',A2'⟩
   ·simp at ha
   rw [List.concat_eq_append] at h
   have k1:K l (e-1)=key b':=K_at (P:=X++A++B1') (R:=B2++Y) (by rw [hl,eB,h]; simp) (by rw [h] at lB1; simp at lB1 ⊢; omega)
   have k2:K l s=key a':=K_at (P:=X++A1) (R:=A2'++B++Y) (by rw [hl,eA]; simp) (by simp; omega)
   rw [k1,k2] at F
   have e1:key b<=key b':=by
    rw [h] at hb hB'
    rcases List.mem_append.1 hb with hb | hb
    ·exact hB'.left.le hb (by simp)
    ·simp at hb; subst hb; exact Int.le_refl _
   have e2:key a'<=key a:=by
    rcases List.mem_cons.1 ha with rfl | ha
    ·exact Int.le_refl _
    ·exact (List.pairwise_cons.1 hA'.right).1 a ha
   omega
 have hparts:=z5p hA' hB' h1 h2
 have e2:l2=X++srt key (A1++B1)++srt key (A2++B2)++Y:=by rw [hl2,eA,eB,<-hparts]; simp
 have e1:l=X++A1++A2++B1++B2++Y:=by rw [hl,eA,eB]; simp
 have nil1:¬ (x<s/\s<mid)->srt key (A1++B1)=A1++B1:=fun h=>by
  have:A1.length=0\/B1.length=0:=by omega
  rcases this with h | h <;> (have:=List.length_eq_zero_iff.1 h; subst this; simp only [List.nil_append,List.append_nil])
  ·exact q7y hB'.left
  ·exact q7y hA'.left
 have nil2:¬ (mid<e/\e<y)->srt key (A2++B2)=A2++B2:=fun h=>by
  have:A2.length=0\/B2.length=0:=by omega
  rcases this with h | h <;> (have:=List.length_eq_zero_iff.1 h; subst this; simp only [List.nil_append,List.append_nil])
  ·exact q7y hB'.right
  ·exact q7y hA'.right
 refine⟨X++A1++B1++A2++B2++Y,X++srt key (A1++B1)++A2++B2++Y,by rw [e1]; simp; omega,by rw [e1]; simp; omega,fun h3 h4=>?_,fun h3=>?_,fun h3 h4=>?_,fun h3=>?_,fun h3 h4=>?_,fun h3=>?_⟩
 ·exact⟨X++A1,A2,B1,B2++Y,by rw [e1]; simp,by simp,by simp; omega,by omega,by omega,by omega,by omega⟩
 ·have:A2.length=0\/B1.length=0:=by omega
  rcases this with h | h <;> (have:=List.length_eq_zero_iff.1 h; subst this; rw [e1]; simp)
 ·exact⟨X,A1,B1,A2++B2++Y,by simp,by simp,hX,by omega,by omega,by omega,by omega,hA'.left,hB'.left⟩
 ·rw [nil1 h3]; simp
 ·exact⟨X++srt key (A1++B1),A2,B2,Y,by simp,by rw [e2],by simp; omega,by omega,by omega,by omega,by omega,hA'.right,hB'.right⟩
 ·rw [e2,nil2 h3]; simp
theorem symMerge_spec {C:List PV}{b cap N:Nat}(hN2:N<=100000)(st:q5f):∀ (n:Nat) {l l2:List Event} {x m y:Nat},y-x<=n->l.length=N->MrgD l l2 x m y ->
  Does P F.q0c [.own b 0 N cap,.int (x:Nat),.int (m:Nat),.int (y:Nat),cmpF] ((b,rowO l C)::st) (.tuple []) ((b,rowO l2 C)::st):=by
 intro n
 induction n with
 | zero=>intro l l2 x m y h1 hN h2; have:=h2.le hN; omega
 | succ n ih=>
 intro l l2 x m y hn hN hD
 have hle:=hD.le hN
 obtain⟨X,A,B,Y,hl,hl2,hX,hm,hy,hA0,hB0,hA,hB⟩:=hD
 by_cases hA1:A.length=1
 ·obtain⟨u,rfl⟩:=List.length_eq_one_iff.1 hA1
  exact mrg_one hN hN2 hl hl2 hX (by simpa using hm) hy hB0 hB st
 by_cases hB1:B.length=1
 ·obtain⟨u,rfl⟩:=List.length_eq_one_iff.1 hB1
  exact mrg_last hN hN2 hl hl2 hX hm (by simpa using hy) hA1 hA st
 have plan:=fun mid s e=>sym_plan (mid:=mid) (s:=s) (e:=e) hl hl2 hX hm hy hA hB
 obtain⟨mid,w1,w2,w3,hmid⟩:=mid_of (i:=x) (j:=y) (by omega)
 obtain⟨pa,hpa⟩:∃ pa,pa=A.length:=⟨_,rfl⟩
 obtain⟨pb,hpb⟩:∃ pb,pb=B.length:=⟨_,rfl⟩
 obtain⟨nn,hnn⟩:∃ nn,nn=mid+m:=⟨_,rfl⟩
 obtain⟨p,hp⟩:∃ p,p=nn-1:=⟨_,rfl⟩
 have hw1:IntKind.i64.wrap ((m:Int)-x)=(pa:Int):=by rw [q5l (by omega) (by omega)]; omega
 have hw2:IntKind.i64.wrap ((y:Int)-m)=(pb:Int):=by rw [q5l (by omega) (by omega)]; omega
 have hpa1:¬ (pa:Int)=1:=by omega
 have hpb1:¬ (pb:Int)=1:=by omega
 have hwn:IntKind.i64.wrap ((mid:Int)+m)=(nn:Int):=by rw [q5l (by omega) (by omega)]; omega
 have hwp:IntKind.i64.wrap ((nn:Int)-1)=(p:Int):=by rw [q5l (by omega) (by omega)]; omega
 obtain⟨s0,r0,hb⟩:∃ s0 r0:Nat,(mid<m/\IntKind.i64.wrap ((nn:Int)-y)=(s0:Int)/\s0=nn-y/\r0=mid)\/(m<=mid/\s0=x/\r0=m):=by
  rcases Nat.lt_or_ge mid m with h | h
  ·exact⟨nn-y,mid,.inl ⟨h,by rw [q5l (by omega) (by omega)]; omega,rfl,rfl⟩⟩
  ·exact⟨x,m,.inr ⟨h,rfl,rfl⟩⟩
 have hsr:Hid (x<=s0/\s0<=r0/\r0<=m/\r0<=mid/\nn-r0<=y/\m<=nn-r0/\nn-s0<=y/\(s0=x\/nn-s0=y)/\(r0=m\/nn-r0=m)/\mid<y/\x<mid/\mid-x<=n/\y-mid<=n/\1<=nn/\p=nn-1/\nn=mid+m/\0<r0):=by
  constructor
  rcases hb with⟨h1,h2,h3,h4⟩|⟨h1,h3,h4⟩ <;> omega
 have hb':(mid<m/\IntKind.i64.wrap ((nn:Int)-y)=(s0:Int))\/(m<=mid/\True):=by
  rcases hb with⟨h1,h2,h3,h4⟩|⟨h1,h3,h4⟩
  ·exact .inl ⟨h1,h2⟩
  ·exact .inr ⟨h1,trivial⟩
 have hb3:Hid ((mid<m->mid=r0)/\(m<=mid->x=s0/\m=r0)):=by
  constructor
  rcases hb with⟨h1,h2,h3,h4⟩|⟨h1,h3,h4⟩ <;> omega
 clear hl hl2 hX hm hy hA hB hpa hpb hp hnn hmid hb hA1 hB1 hA0 hB0
 refine H.q0c.view q5n rfl rfl ?_
 have body:∀ s r:Nat,s0<=s/\s<=r/\r<=r0/\(s=s0\/K l (s-1)<=K l (nn-s))/\(r=r0\/K l (p-r)<K l r)->s<r->∃ h q:Nat,∃ z v:Event,Hid (s<=h/\h<r/\q<N/\h<N)/\IntKind.i64.wrap ((s:Int)+r)=(s:Int)+r/\IntKind.u64.wrap ((s:Int)+r)=(s:Int)+r ∧
   IntKind.i64.wrap (((s:Int)+r).fdiv (2 ^ min 1 IntKind.u64.bits))=(h:Int)/\IntKind.i64.wrap ((h:Int)+1)=(h:Int)+1/\IntKind.i64.wrap ((p:Int)-h)=(q:Int)/\(∀ h':h<l.length,l[h]=z)/\(∀ h':q<l.length,l[q]=v) ∧
   (key v<key z->s0<=s/\s<=h/\h<=r0/\(s=s0\/K l (s-1)<=K l (nn-s))/\(h=r0\/K l (p-h)<K l h)) ∧
   (key z<=key v->s0<=h+1/\h+1<=r/\r<=r0/\(h+1=s0\/K l (h+1-1)<=K l (nn-(h+1)))/\(r=r0\/K l (p-r)<K l r)):=by
  rintro s r ⟨i1,i2,i3,i4,i5⟩ hsr2
  obtain⟨k1,k2,k3,k4,k5,k6,k7,k8,k9,k10,k11,k12,k13,k14,k15,k16,k17⟩:=hsr.out
  obtain⟨h,w1,w2,w3,hh⟩:=mid_of (i:=s) (j:=r) (by omega)
  have hq1:p-h<l.length:=by omega
  have hh1:h<l.length:=by omega
  refine⟨h,p-h,l[h],l[p-h],⟨by omega,by omega,by omega,by omega⟩,w1,w2,w3,q5i (by omega),by rw [q5l (by omega) (by omega)]; omega,fun _=>rfl,fun _=>rfl,fun hz=>⟨i1,by omega,by omega,i4,.inr ?_⟩,fun hz=>⟨by omega,by omega,i3,.inr ?_,i5⟩⟩
  ·rw [K_get hq1,K_get hh1]; exact hz
  ·rw [show h+1-1=h by omega,show nn-(h+1)=p-h by omega,K_get hq1,K_get hh1]; exact hz
 rcases hb' with⟨hb1,hb2⟩|⟨hb1,hb2⟩
 all_goals
  repeat' (first 
   | (with_reducible refine And.intro (fun h=>?_) ?_) <;> (try (exfalso; omega))
   | (simp -dsimp -implicitDefEqProofs [*]))
  refine q5h (fun s:Nat × Nat=>[(0,.own b 0 N cap),(1,.int (x:Nat)),(2,.int (m:Nat)),(3,.int (y:Nat)),(4,cmpF),(18,.int (mid:Nat)),(19,.int (nn:Nat)),(20,.int (s.1:Nat)),(21,.int (s.2:Nat)),(22,.int (p:Nat))]) (fun _=>(b,rowO l C)::st)
   (fun s=>s0<=s.1/\s.1<=s.2/\s.2<=r0/\(s.1=s0\/K l (s.1-1)<=K l (nn-s.1))/\(s.2=r0\/K l (p-s.2)<K l s.2)) (fun s=>s.2-s.1) (s0,r0) ⟨Nat.le_refl _,hsr.out.2.1,Nat.le_refl _,.inl rfl,.inl rfl⟩ (by simp [*]; have:=hb3.out; omega) (by simp) ?_
  rintro⟨s,r⟩ hi
  simp only at hi
  clear hb1 hb2 hb3 w1 w2 w3 hw1 hw2 hwn hwp hpa1 hpb1
  by_cases hij:s<r
  ·obtain⟨c,q,z,v,a1,a2,a3,a4,a5,a6,a7,a8,a9,a10⟩:=body s r hi hij
   clear plan body ih hi
   have a11:=a1.out
   repeat' (first 
    | (with_reducible refine Rets.xcall (by_spec _ _ _) ?_)
    | (with_reducible refine DrawLate.intro [] ?_)
    | (with_reducible refine And.intro (fun h=>?_) (fun h=>?_)) <;> (try (exfalso; omega))
    | (simp -dsimp -implicitDefEqProofs [*]))
   ·exact Next.intro (s,c) (a9 ‹_›) (by simp only; omega) (by simp) q5o
   ·exact Next.intro (c+1,r) (a10 ‹_›) (by simp only; omega) (by simp) q5o
  obtain⟨k1,k2,k3,k4,k5,k6,k7,k8,k9,k10,k11,k12,k13,k14,k15,k16,k17⟩:=hsr.out
  obtain⟨i1,i2,i3,i4,i5⟩:=hi
  obtain⟨e,he⟩:∃ e,e=nn-s:=⟨_,rfl⟩
  have hse:s=r:=by omega
  have hwe:IntKind.i64.wrap ((nn:Int)-s)=(e:Int):=by rw [q5l (by omega) (by omega)]; omega
  have F1:s=x\/e=y\/K l (s-1)<=K l e:=by
   rcases i4 with h | h
   ·rcases k8 with h' | h'
    ·exact .inl (by omega)
    ·exact .inr (.inl (by omega))
   ·exact .inr (.inr (by rw [he]; exact h))
  have F2:s=m\/e=m\/K l (e-1)<K l s:=by
   rcases i5 with h | h
   ·rcases k9 with h' | h'
    ·exact .inl (by omega)
    ·exact .inr (.inl (by omega))
   ·exact .inr (.inr (by rw [show e-1=p-r by omega,hse]; exact h))
  obtain⟨l3,l4,hl3,hl4,p1,p2,p3,p4,p5,p6⟩:=plan mid s e (by omega) (by omega) (by omega) (by omega) (by omega) F1 F2
  rw [hN] at hl3 hl4
  clear F1 F2 plan body i4 i5 he hse hsr k8 k9 k15 k16
  by_cases c1:s<m/\m<e
  ·have r1:=rotD_spec (C:=C) (b:=b) (cap:=cap) hN hN2 (p1 c1.1 c1.2) st
   by_cases c2:x<s/\s<mid
   ·have r2:=ih (l:=l3) (l2:=l4) (x:=x) (m:=s) (y:=mid) (by omega) hl3 (p3 c2.1 c2.2)
    by_cases c3:mid<e/\e<y
    ·have r3:=ih (l:=l4) (l2:=l2) (x:=mid) (m:=e) (y:=y) (by omega) hl4 (p5 c3.1 c3.2)
     clear p1 p2 p3 p4 p5 p6 ih
     repeat' (first 
      | (with_reducible refine Does.xcall (r1) ?_)
      | (with_reducible refine Does.xcall (r2) ?_)
      | (with_reducible refine Does.xcall (r3) ?_)
      | (simp -dsimp -implicitDefEqProofs [*]))
     all_goals exact .drop (StLe.refl _) ⟨rfl,rfl⟩
    ·have q3:=p6 c3
     subst q3
     clear p1 p2 p3 p4 p5 p6 ih
     repeat' (first 
      | (with_reducible refine Does.xcall (r1) ?_)
      | (with_reducible refine Does.xcall (r2) ?_)
      | (with_reducible refine And.intro (fun h=>?_) (fun h=>?_)) <;> (try (exfalso; omega))
      | (simp -dsimp -implicitDefEqProofs [*]))
     all_goals exact .drop (StLe.refl _) ⟨rfl,rfl⟩
   ·have q2:=p4 c2
    subst q2
    by_cases c3:mid<e/\e<y
    ·have r3:=ih (l:=l4) (l2:=l2) (x:=mid) (m:=e) (y:=y) (by omega) hl4 (p5 c3.1 c3.2)
     clear p1 p2 p3 p4 p5 p6 ih
     repeat' (first 
      | (with_reducible refine Does.xcall (r1) ?_)
      | (with_reducible refine Does.xcall (r3) ?_)
      | (with_reducible refine And.intro (fun h=>?_) (fun h=>?_)) <;> (try (exfalso; omega))
      | (simp -dsimp -implicitDefEqProofs [*]))
     all_goals exact .drop (StLe.refl _) ⟨rfl,rfl⟩
    ·have q3:=p6 c3
     subst q3
     clear p1 p2 p3 p4 p5 p6 ih
     repeat' (first 
      | (with_reducible refine Does.xcall (r1) ?_)
      | (with_reducible refine And.intro (fun h=>?_) (fun h=>?_)) <;> (try (exfalso; omega))
      | (simp -dsimp -implicitDefEqProofs [*]))
     all_goals exact .drop (StLe.refl _) ⟨rfl,rfl⟩
  ·have q1:=p2 c1
   subst q1
   by_cases c2:x<s/\s<mid
   ·have r2:=ih (l:=l3) (l2:=l4) (x:=x) (m:=s) (y:=mid) (by omega) hl3 (p3 c2.1 c2.2)
    by_cases c3:mid<e/\e<y
    ·have r3:=ih (l:=l4) (l2:=l2) (x:=mid) (m:=e) (y:=y) (by omega) hl4 (p5 c3.1 c3.2)
     clear p1 p2 p3 p4 p5 p6 ih
     repeat' (first 
      | (with_reducible refine Does.xcall (r2) ?_)
      | (with_reducible refine Does.xcall (r3) ?_)
      | (with_reducible refine And.intro (fun h=>?_) (fun h=>?_)) <;> (try (exfalso; omega))
      | (simp -dsimp -implicitDefEqProofs [*]))
     all_goals exact .drop (StLe.refl _) ⟨rfl,rfl⟩
    ·have q3:=p6 c3
     subst q3
     clear p1 p2 p3 p4 p5 p6 ih
     repeat' (first 
      | (with_reducible refine Does.xcall (r2) ?_)
      | (with_reducible refine And.intro (fun h=>?_) (fun h=>?_)) <;> (try (exfalso; omega))
      | (simp -dsimp -implicitDefEqProofs [*]))
     all_goals exact .drop (StLe.refl _) ⟨rfl,rfl⟩
   ·have q2:=p4 c2
    subst q2
    by_cases c3:mid<e/\e<y
    ·have r3:=ih (l:=l4) (l2:=l2) (x:=mid) (m:=e) (y:=y) (by omega) hl4 (p5 c3.1 c3.2)
     clear p1 p2 p3 p4 p5 p6 ih
     repeat' (first 
      | (with_reducible refine Does.xcall (r3) ?_)
      | (with_reducible refine And.intro (fun h=>?_) (fun h=>?_)) <;> (try (exfalso; omega))
      | (simp -dsimp -implicitDefEqProofs [*]))
     all_goals exact .drop (StLe.refl _) ⟨rfl,rfl⟩
    ·have q3:=p6 c3
     subst q3
     clear p1 p2 p3 p4 p5 p6 ih
     repeat' (first 
      | (with_reducible refine And.intro (fun h=>?_) (fun h=>?_)) <;> (try (exfalso; omega))
      | (simp -dsimp -implicitDefEqProofs [*]))
     all_goals exact .drop (StLe.refl _) ⟨rfl,rfl⟩
end SortEvent
end Go.Proofs.YtmlmoaimjifpgaaGreat
