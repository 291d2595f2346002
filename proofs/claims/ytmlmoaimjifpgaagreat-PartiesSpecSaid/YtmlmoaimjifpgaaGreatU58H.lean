/- Sorting Decisions: swaps, rotations. -/
import Derived.Test.YtmlmoaimjifpgaaGreatT58K
namespace Go.Proofs.YtmlmoaimjifpgaaGreat
open Go.Pv
set_option maxRecDepth 100000
namespace SortDecision
theorem swapRange_spec {l l2 X A M B Y:List Decision}{C:List PV}{b cap N x y n:Nat}(hN:l.length=N)(hN2:N<=100000)(hl:l=X++A++M++B++Y)(hl2:l2=X++B++M++A++Y)
  (hX:X.length=x) (hA:A.length=n) (hB:B.length=n) (hM:x+n+M.length=y) (st:q5f) :
  Does P F.q0n [.own b 0 N cap,.int (x:Nat),.int (y:Nat),.int (n:Nat),cmpF] ((b,rowO l C)::st) (.tuple []) ((b,rowO l2 C)::st):=by
 have hlen:x+n+M.length+n+Y.length=N:=by rw [<-hN,hl]; simp; omega
 have h0:Hid (l=X++(B.take 0++A.drop 0)++M++(A.take 0++B.drop 0)++Y):=⟨by simp [hl]⟩
 clear hl
 refine H.q0n.view q5n rfl rfl ?_
 repeat' (simp -dsimp -implicitDefEqProofs [*])
 refine q5h (fun s:Nat × List Decision=>[(0,.own b 0 N cap),(1,.int (x:Nat)),(2,.int (y:Nat)),(3,.int (n:Nat)),(10,.int (s.1:Nat))]) (fun s=>(b,rowO s.2 C)::st)
  (fun s=>s.1<=n/\s.2.length=N/\s.2=X++(B.take s.1++A.drop s.1)++M++(A.take s.1++B.drop s.1)++Y) (fun s=>n-s.1) (0,l) ?_ ?_ ?_ ?_
 ·exact⟨Nat.zero_le _,hN,h0.out⟩
 ·simp
 ·simp
 rintro⟨i,l'⟩ ⟨hi,hlen',hl'⟩
 simp only at hi hlen' hl'
 have hw:=q5i (n:=i) (by omega)
 by_cases hin:i<n
 ·obtain⟨p,hp⟩:∃ p,p=x+i:=⟨_,rfl⟩
  obtain⟨q,hq⟩:∃ q,q=y+i:=⟨_,rfl⟩
  have hwp:IntKind.i64.wrap ((x:Int)+i)=(p:Int):=by rw [hp]; exact q5l (by omega) (by omega)
  have hwq:IntKind.i64.wrap ((y:Int)+i)=(q:Int):=by rw [hq]; exact q5l (by omega) (by omega)
  obtain⟨u,hAi,hAt⟩:=cut_at (A:=A) (i:=i) (by omega)
  obtain⟨v,hBi,hBt⟩:=cut_at (A:=B) (i:=i) (by omega)
  have hs:=swap2 (l:=l') (P:=X++B.take i) (x:=u) (Q:=A.drop (i+1)++M++A.take i) (y:=v) (R:=B.drop (i+1)++Y) (i:=p) (j:=q) (by rw [hl',hAi,hBi]; simp) (by simp; omega) (by simp; omega)
  obtain⟨h1,h2,h3,h4,h5,h6⟩:=hs
  have hfin:Hid ((l'.set p v).set q u=X++(B.take (i+1)++A.drop (i+1))++M++(A.take (i+1)++B.drop (i+1))++Y):=⟨by rw [h3,hAt,hBt]; simp⟩
  clear hl2 hl' hAi hBi hAt hBt h3 h4 h0 hp hq
  generalize hl3:(l'.set p v).set q u=l3 at *
  have hlen3:l3.length=N:=by rw [<-hl3]; simp [hlen']
  repeat' (simp -dsimp -implicitDefEqProofs [*])
  refine DrawLate.intro [b] ?_
  repeat' (first 
   | ((with_reducible refine q5v ?_ fun hk=>?_); omega)
   | (simp -dsimp -implicitDefEqProofs [*]))
  exact Next.intro (i+1,l3) ⟨by simp only; omega,hlen3,hfin.out⟩ (by simp only; omega) (by simp) q5o
 ·have:i=n:=by omega
  subst this
  have e:l'=l2:=by rw [hl',hl2,List.take_of_length_le (by omega),List.take_of_length_le (by omega),List.drop_of_length_le (by omega),List.drop_of_length_le (by omega)]; simp
  clear hl2 hl' h0
  subst e
  repeat' (simp -dsimp -implicitDefEqProofs [*])
  exact .drop (StLe.refl _) ⟨rfl,rfl⟩
def RotI (l2 l':List Decision)(N m i j:Nat):Prop:=l'.length=N/\∃ P U V Q,l'=P++U++V++Q/\l2=P++V++U++Q/\U.length=i/\V.length=j/\P.length+i=m
theorem rot_gt {l2 l':List Decision}{N m i j:Nat}(h:RotI l2 l' N m i j)(hij:j<i):∃ X A M B Y l3,l'=X++A++M++B++Y/\l3=X++B++M++A++Y/\X.length=m-i/\A.length=j/\B.length=j/\m-i+j+M.length=m/\l3.length=N/\RotI l2 l3 N m (i-j) j:=by
 obtain⟨hN,P,U,V,Q,h1,h2,h3,h4,h5⟩:=h
 obtain⟨U1,U2,hU,hU1,hU2⟩:=cut_len (A:=U) (k:=j) (by omega)
 have hlen:(P++V++U2++U1++Q).length=N:=by rw [<-hN,h1,hU]; simp; omega
 refine⟨P,U1,U2,V,Q,_,by rw [h1,hU]; simp,rfl,by omega,hU1,h4,by omega,hlen,hlen,P++V,U2,U1,Q,rfl,by rw [h2,hU]; simp,by omega,hU1,by simp; omega⟩
theorem rot_lt {l2 l':List Decision}{N m i j:Nat}(h:RotI l2 l' N m i j)(hij:i<j):∃ X A M B Y l3,l'=X++A++M++B++Y/\l3=X++B++M++A++Y/\X.length=m-i/\A.length=i/\B.length=i/\m-i+i+M.length=m+j-i/\l3.length=N/\RotI l2 l3 N m i (j-i):=by
 obtain⟨hN,P,U,V,Q,h1,h2,h3,h4,h5⟩:=h
 obtain⟨V1,V2,hV,hV1,hV2⟩:=cut_len (A:=V) (k:=j-i) (by omega)
 have hlen:(P++V2++V1++U++Q).length=N:=by rw [<-hN,h1,hV]; simp; omega
 refine⟨P,U,V1,V2,Q,_,by rw [h1,hV]; simp,rfl,by omega,h3,by omega,by omega,hlen,hlen,P,V2,V1,U++Q,by simp,by rw [h2,hV]; simp,by omega,hV1,by omega⟩
theorem rot_eq {l2 l':List Decision}{N m i:Nat}(h:RotI l2 l' N m i i):∃ X A M B Y,l'=X++A++M++B++Y/\l2=X++B++M++A++Y/\X.length=m-i/\A.length=i/\B.length=i/\m-i+i+M.length=m:=by
 obtain⟨hN,P,U,V,Q,h1,h2,h3,h4,h5⟩:=h
 exact⟨P,U,[],V,Q,by rw [h1]; simp,by rw [h2]; simp,by omega,h3,h4,by simp; omega⟩
theorem rot_le {l2 l':List Decision}{N m i j:Nat}(h:RotI l2 l' N m i j):i<=m/\m+j<=N:=by
 obtain⟨hN,P,U,V,Q,h1,h2,h3,h4,h5⟩:=h
 have:=congrArg List.length h1
 simp at this
 omega
theorem rotate_spec {l l2 X A B Y:List Decision}{C:List PV}{b cap N x m y:Nat}(hN:l.length=N)(hN2:N<=100000)(hl:l=X++A++B++Y)(hl2:l2=X++B++A++Y)
  (hX:X.length=x) (hA:x+A.length=m) (hB:m+B.length=y) (hA0:0<A.length) (hB0:0<B.length) (st:q5f) :
  Does P F.q02 [.own b 0 N cap,.int (x:Nat),.int (m:Nat),.int (y:Nat),cmpF] ((b,rowO l C)::st) (.tuple []) ((b,rowO l2 C)::st):=by
 have h0:RotI l2 l N m A.length B.length:=⟨hN,X,A,B,Y,hl,hl2,rfl,rfl,by omega⟩
 have hle:=rot_le h0
 have hw1:IntKind.i64.wrap ((m:Int)-x)=(A.length:Int):=by rw [q5l (by omega) (by omega)]; omega
 have hw2:IntKind.i64.wrap ((y:Int)-m)=(B.length:Int):=by rw [q5l (by omega) (by omega)]; omega
 generalize A.length=i0 at *
 generalize B.length=j0 at *
 clear hl hl2
 refine H.q02.view q5n rfl rfl ?_
 repeat' (simp -dsimp -implicitDefEqProofs [*])
 refine q5h (fun s:(Nat × Nat) × List Decision=>[(0,.own b 0 N cap),(2,.int (m:Nat)),(4,cmpF),(10,.int (s.1.1:Nat)),(11,.int (s.1.2:Nat))]) (fun s=>(b,rowO s.2 C)::st)
  (fun s=>0<s.1.1/\0<s.1.2/\RotI l2 s.2 N m s.1.1 s.1.2) (fun s=>s.1.1+s.1.2) ((i0,j0),l) ?_ ?_ ?_ ?_
 ·exact⟨hA0,hB0,h0⟩
 ·simp
 ·simp
 rintro⟨⟨i,j⟩,l'⟩ ⟨hi,hj,hI⟩
 simp only at hi hj hI
 have hle':=rot_le hI
 have hlen':=hI.1
 clear h0 hle hw1 hw2 hN hA hB hA0 hB0
 obtain⟨p,hp⟩:∃ p,p=m-i:=⟨_,rfl⟩
 have hwp:IntKind.i64.wrap ((m:Int)-i)=(p:Int):=by rw [q5l (by omega) (by omega)]; omega
 rcases Nat.lt_trichotomy i j with hij | hij | hij
 ·obtain⟨X',A',M',B',Y',l3,e1,e2,e3,e4,e5,e6,e7,e8⟩:=rot_lt hI hij
  obtain⟨q,hq⟩:∃ q,q=m+j-i:=⟨_,rfl⟩
  obtain⟨k,hk⟩:∃ k,k=j-i:=⟨_,rfl⟩
  obtain⟨r,hr⟩:∃ r,r=m+j:=⟨_,rfl⟩
  have hwr:IntKind.i64.wrap ((m:Int)+j)=(r:Int):=by rw [q5l (by omega) (by omega)]; omega
  have hwq:IntKind.i64.wrap ((r:Int)-i)=(q:Int):=by rw [q5l (by omega) (by omega)]; omega
  have hwk:IntKind.i64.wrap ((j:Int)-i)=(k:Int):=by rw [q5l (by omega) (by omega)]; omega
  rw [<-hp] at e3 e6
  rw [<-hq] at e6
  rw [<-hk] at e8
  have hs:=swapRange_spec (C:=C) (b:=b) (cap:=cap) hlen' hN2 e1 e2 e3 e4 e5 e6
  have hne:¬ i=j/\¬ j=i:=by omega
  have hk0:0<k/\k<j:=by omega
  clear e1 e2 e3 e4 e5 e6 hp hq hr hk hX
  repeat' (first 
   | (with_reducible refine Does.xcall (hs st) ?_)
   | (with_reducible refine And.intro (fun h=>?_) (fun h=>?_)) <;> (try (exfalso; omega))
   | (simp -dsimp -implicitDefEqProofs [*]))
  exact Next.intro ((i,k),l3) ⟨hi,hk0.1,e8⟩ (by simp only; omega) (by simp) q5o
 ·subst hij
  obtain⟨X',A',M',B',Y',e1,e2,e3,e4,e5,e6⟩:=rot_eq hI
  rw [<-hp] at e3 e6
  have hs:=swapRange_spec (C:=C) (b:=b) (cap:=cap) hlen' hN2 e1 e2 e3 e4 e5 e6
  clear e1 e2 e3 e4 e5 e6 hp hX
  repeat' (first 
   | (with_reducible refine Does.xcall (hs st) ?_)
   | (simp -dsimp -implicitDefEqProofs [*]))
  exact .drop (StLe.refl _) ⟨rfl,rfl⟩
 ·obtain⟨X',A',M',B',Y',l3,e1,e2,e3,e4,e5,e6,e7,e8⟩:=rot_gt hI hij
  obtain⟨k,hk⟩:∃ k,k=i-j:=⟨_,rfl⟩
  have hwk:IntKind.i64.wrap ((i:Int)-j)=(k:Int):=by rw [q5l (by omega) (by omega)]; omega
  rw [<-hp] at e3 e6
  rw [<-hk] at e8
  have hs:=swapRange_spec (C:=C) (b:=b) (cap:=cap) hlen' hN2 e1 e2 e3 e4 e5 e6
  have hne:¬ i=j/\¬ j=i:=by omega
  have hk0:0<k/\k<i:=by omega
  clear e1 e2 e3 e4 e5 e6 hp hk hX
  repeat' (first 
   | (with_reducible refine Does.xcall (hs st) ?_)
   | (with_reducible refine And.intro (fun h=>?_) (fun h=>?_)) <;> (try (exfalso; omega))
   | (simp -dsimp -implicitDefEqProofs [*]))
  exact Next.intro ((k,j),l3) ⟨hk0.1,hj,e8⟩ (by simp only; omega) (by simp) q5o
def RotD (l l2:List Decision)(x m y:Nat):Prop:=∃ X A B Y,l=X++A++B++Y/\l2=X++B++A++Y/\X.length=x/\x+A.length=m/\m+B.length=y/\0<A.length/\0<B.length
def MrgD (l l2:List Decision)(x m y:Nat):Prop:=∃ X A B Y,l=X++A++B++Y/\l2=X++srt key (A++B)++Y/\X.length=x/\x+A.length=m/\m+B.length=y/\0<A.length/\0<B.length/\Srtd key A/\Srtd key B
theorem rotD_spec {l l2:List Decision}{C:List PV}{b cap N x m y:Nat}(hN:l.length=N)(hN2:N<=100000)(h:RotD l l2 x m y)(st:q5f) :
  Does P F.q02 [.own b 0 N cap,.int (x:Nat),.int (m:Nat),.int (y:Nat),cmpF] ((b,rowO l C)::st) (.tuple []) ((b,rowO l2 C)::st):=by
 obtain⟨X,A,B,Y,h1,h2,h3,h4,h5,h6,h7⟩:=h
 exact rotate_spec hN hN2 h1 h2 h3 h4 h5 h6 h7 st
theorem MrgD.le {l l2:List Decision}{x m y N:Nat}(h:MrgD l l2 x m y)(hN:l.length=N):x<m/\m<y/\y<=N/\l2.length=N:=by
 obtain⟨X,A,B,Y,h1,h2,h3,h4,h5,h6,h7, -⟩:=h
 have e1:=congrArg List.length h1
 have e2:=congrArg List.length h2
 simp at e1 e2
 omega
def Src (f g:Decision->Prop)(B:List Decision)(m i j:Nat):Prop:=∃ B1 Bm B2,B=B1++Bm++B2/\m+B1.length=i/\i+Bm.length=j/\(∀ q ∈ B1,f q)/\(∀ q ∈ B2,g q)
theorem Src.le {f g:Decision->Prop}{B:List Decision}{m i j:Nat}(h:Src f g B m i j):m<=i/\i<=j/\j<=m+B.length:=by
 obtain⟨B1,Bm,B2,h1,h2,h3, -⟩:=h
 have:=congrArg List.length h1
 simp at this
 omega
theorem Src.step {f g:Decision->Prop}{X B Y l:List Decision}{m i j h:Nat}(hl:l=X++B++Y)(hX:X.length=m)(hB:Srtd key B)(hf:∀ a b:Decision,key a<=key b->f b->f a)(hg:∀ a b:Decision,key a<=key b->g a->g b)(hs:Src f g B m i j)(h1:i<=h)(h2:h<j) :
  ∃ z,h<l.length/\(∀ h':h<l.length,l[h]=z)/\(f z->Src f g B m (h+1) j)/\(g z->Src f g B m i h):=by
 obtain⟨B1,Bm,B2,e1,e2,e3,e4,e5⟩:=hs
 obtain⟨C1,C2,hC,hC1,hC2⟩:=cut_len (A:=Bm) (k:=h-i) (by omega)
 rcases C2 with _ |⟨z,C2⟩
 ·simp at hC2; omega
 have hB':Srtd key (B1++(C1++z::C2)++B2):=by rw [<-hC,<-e1]; exact hB
 have hm:=hB'.left.right
 have hlen:=congrArg List.length hC
 simp at hlen
 obtain⟨a1,a2⟩:=at_mid (l:=l) (P:=X++B1++C1) (z:=z) (R:=C2++B2++Y) (i:=h) (by rw [hl,e1,hC]; simp) (by simp; omega)
 refine⟨z,a1,a2,fun hz=>⟨B1++C1++[z],C2,B2,by rw [e1,hC]; simp,by simp; omega,by omega,fun q hq=>?_,e5⟩,fun hz=>⟨B1,C1,z::C2++B2,by rw [e1,hC]; simp,e2,by omega,e4,fun q hq=>?_⟩⟩
 ·rcases List.mem_append.1 hq with hq | hq
  ·rcases List.mem_append.1 hq with hq | hq
   ·exact e4 q hq
   ·exact hf q z (hm.le hq (by simp)) hz
  ·simp at hq; subst hq; exact hz
 ·rcases List.mem_append.1 hq with hq | hq
  ·rcases List.mem_cons.1 hq with rfl | hq
   ·exact hz
   ·exact hg z q ((List.pairwise_cons.1 hm.right).1 q hq) hz
  ·exact e5 q hq
theorem Src.init {f g:Decision->Prop}{B:List Decision}{m y:Nat}(h:m+B.length=y):Src f g B m m y:=⟨[],B,[],by simp,by simp,h,by simp,by simp⟩
theorem Src.fin {f g:Decision->Prop}{B:List Decision}{m i j:Nat}(h:Src f g B m i j)(hij:j<=i):∃ B1 B2,B=B1++B2/\m+B1.length=i/\(∀ q ∈ B1,f q)/\(∀ q ∈ B2,g q):=by
 obtain⟨B1,Bm,B2,e1,e2,e3,e4,e5⟩:=h
 have:Bm=[]:=List.length_eq_zero_iff.1 (by omega)
 subst this
 exact⟨B1,B2,by simpa using e1,e2,e4,e5⟩
end SortDecision
open Go.Pv
set_option maxRecDepth 100000
set_option maxHeartbeats 4000000
namespace SortDecision
section
variable {C:List PV} {b cap N:Nat}
theorem mid_of {i j:Nat}(h:i+j<=200000):∃ m:Nat,IntKind.i64.wrap ((i:Int)+j)=(i:Int)+j/\IntKind.u64.wrap ((i:Int)+j)=(i:Int)+j/\IntKind.i64.wrap (((i:Int)+j).fdiv (2 ^ min 1 IntKind.u64.bits))=(m:Int)/\m=(i+j) / 2:=
 ⟨(i+j) / 2,q5l (by omega) (by omega),q7n (by omega) (by omega),j4n (by omega),rfl⟩
theorem mrg_one {l l2 X B Y:List Decision}{u:Decision}(hN:l.length=N)(hN2:N<=100000){x m y:Nat}(hl:l=X++[u]++B++Y)(hl2:l2=X++srt key ([u]++B)++Y)(hX:X.length=x)(hm:x+1=m)(hy:m+B.length=y)(hB0:0<B.length)(hB:Srtd key B)(st:q5f) :
  Does P F.q0a [.own b 0 N cap,.int (x:Nat),.int (m:Nat),.int (y:Nat),cmpF] ((b,rowO l C)::st) (.tuple []) ((b,rowO l2 C)::st):=by
 have hyN:y<=N:=by
  have:=congrArg List.length hl
  simp at this
  omega
 have hw1:IntKind.i64.wrap ((m:Int)-x)=1:=by rw [q5l (by omega) (by omega)]; omega
 refine H.q0a.view q5n rfl rfl ?_
 have h0:Hid (l=X++[u]++B++Y):=⟨hl⟩
 have h2:Hid (l2=X++srt key ([u]++B)++Y):=⟨hl2⟩
 obtain⟨a1,a2⟩:=at_mid (l:=l) (P:=X) (z:=u) (R:=B++Y) (i:=x) (by rw [hl]; simp) hX
 clear hl hl2
 repeat' (simp -dsimp -implicitDefEqProofs [*])
 refine q5h (fun s:Nat × Nat=>[(0,.own b 0 N cap),(1,.int (x:Nat)),(4,cmpF),(10,.int (s.1:Nat)),(11,.int (s.2:Nat))]) (fun _=>(b,rowO l C)::st)
  (fun s=>Src (fun e=>key e<key u) (fun e=>key u<=key e) B m s.1 s.2) (fun s=>s.2-s.1) (m,y) (Src.init hy) (by simp) (by simp) ?_
 rintro⟨i,j⟩ hs
 simp only at hs
 have hle:=hs.le
 obtain⟨h,w1,w2,w3,hh⟩:=mid_of (i:=i) (j:=j) (by omega)
 have w5:=q5i (n:=h) (by omega)
 by_cases hij:i<j
 ·obtain⟨z,z1,z2,z3,z4⟩:=hs.step (h:=h) (X:=X++[u]) (Y:=Y) (l:=l) h0.out (by simp; omega) hB (fun a b h1 h2=>by omega) (fun a b h1 h2=>by omega) (by omega) (by omega)
  have hh2:i<=h/\h<j:=by omega
  clear hh hX hm hw1
  repeat' (first 
   | (with_reducible refine Rets.xcall (by_spec _ _ _) ?_)
   | (with_reducible refine DrawLate.intro [] ?_)
   | (with_reducible refine And.intro (fun h=>?_) (fun h=>?_)) <;> (try (exfalso; omega))
   | ((with_reducible refine q5v ?_ fun hk=>?_); omega)
   | (simp -dsimp -implicitDefEqProofs [*]))
  ·exact Next.intro (_,j) (z3 ‹_›) (by simp only; omega) (by simp) q5o
  ·exact Next.intro (i,_) (z4 ‹_›) (by simp only; omega) (by simp) q5o
 ·obtain⟨B1,B2,e1,e2,e3,e4⟩:=hs.fin (by omega)
  obtain⟨i1,hi1⟩:∃ i1,i1=i-1:=⟨_,rfl⟩
  have hwi:IntKind.i64.wrap ((i:Int)-1)=(i1:Int):=by rw [q5l (by omega) (by omega)]; omega
  have hlen2:X.length+1+B1.length+B2.length+Y.length=N:=by rw [<-hN,h0.out,e1]; simp; omega
  have hB12:Srtd key (B1++B2):=e1 ▸ hB
  have hres:Hid (l2=X++B1++u::B2++Y):=⟨by rw [h2.out,e1,List.singleton_append,<-z5o hB12 e3 e4]; simp⟩
  have h0':Hid (l=X++B1.take 0++u::(B1.drop 0++B2++Y)):=⟨by rw [h0.out,e1]; simp⟩
  have hb1:i1=x+B1.length:=by omega
  clear e1 e3 e4 hB hB12 h2 h0 w1 w2 w3 w5 hs hh hw1
  repeat' (simp -dsimp -implicitDefEqProofs [*])
  refine q5h (fun s:Nat × List Decision=>[(0,.own b 0 N cap),(10,.int (i:Nat)),(13,.int (s.1:Nat))]) (fun s=>(b,rowO s.2 C)::st)
   (fun s=>x<=s.1/\s.1<=i1/\s.2.length=N/\s.2=X++B1.take (s.1-x)++u::(B1.drop (s.1-x)++B2++Y)) (fun s=>i1-s.1) (x,l) ⟨Nat.le_refl _,by simp only; omega,hN,by simpa using h0'.out⟩ (by simp) (by simp) ?_
  rintro⟨k,l'⟩ ⟨hk1,hk2,hlen',hl'⟩
  simp only at hk1 hk2 hlen' hl'
  by_cases hki:k<i1
  ·obtain⟨v,c1,c2⟩:=cut_at (A:=B1) (i:=k-x) (by omega)
   obtain⟨q,hq⟩:∃ q,q=k+1:=⟨_,rfl⟩
   have hwq:IntKind.i64.wrap ((k:Int)+1)=(q:Int):=by rw [hq,q5i (by omega)]; omega
   obtain⟨h1,h2,h3,h4,h5,h6⟩:=swap2 (l:=l') (P:=X++B1.take (k-x)) (x:=u) (Q:=[]) (y:=v) (R:=B1.drop (k-x+1)++B2++Y) (i:=k) (j:=q) (by rw [hl',c1]; simp) (by simp; omega) (by simp; omega)
   have hfin:Hid ((l'.set k v).set q u=X++B1.take (q-x)++u::(B1.drop (q-x)++B2++Y)):=⟨by rw [h3,show q-x=k-x+1 by omega,c2]; simp⟩
   have hqk:k<q/\x<=q/\q<=i1:=by omega
   clear hl' c1 c2 h3 h4 hq hX hm hb1 hlen2 e2 hij
   generalize hl3:(l'.set k v).set q u=l3 at *
   have hlen3:l3.length=N:=by rw [<-hl3]; simp [hlen']
   repeat' (first 
    | (with_reducible refine And.intro (fun h=>?_) (fun h=>?_)) <;> (try (exfalso; omega))
    | (simp -dsimp -implicitDefEqProofs [*]))
   refine DrawLate.intro [b] ?_
   repeat' (first 
    | ((with_reducible refine q5v ?_ fun hk=>?_); omega)
    | (simp -dsimp -implicitDefEqProofs [*]))
   exact Next.intro (q,l3) ⟨hqk.2.1,hqk.2.2,hlen3,hfin.out⟩ (by simp only; omega) (by simp) q5o
  ·have hki2:k-x=B1.length:=by omega
   have e:l'=l2:=by rw [hl',hres.out,hki2]; simp
   clear hl' hb1 hX hm hlen2 e2 hij
   subst e
   repeat' (first 
    | (with_reducible refine And.intro (fun h=>?_) (fun h=>?_)) <;> (try (exfalso; omega))
    | (simp -dsimp -implicitDefEqProofs [*]))
   exact .drop (StLe.refl _) ⟨rfl,rfl⟩
theorem mrg_last {l l2 X A Y:List Decision}{u:Decision}(hN:l.length=N)(hN2:N<=100000){x m y:Nat}(hl:l=X++A++[u]++Y)(hl2:l2=X++srt key (A++[u])++Y)(hX:X.length=x)(hm:x+A.length=m)(hy:m+1=y)(hA1:¬ A.length=1)(hA:Srtd key A)(st:q5f) :
  Does P F.q0a [.own b 0 N cap,.int (x:Nat),.int (m:Nat),.int (y:Nat),cmpF] ((b,rowO l C)::st) (.tuple []) ((b,rowO l2 C)::st):=by
 have hyN:y<=N:=by
  have:=congrArg List.length hl
  simp at this
  omega
 obtain⟨pa,hpa⟩:∃ pa,pa=A.length:=⟨_,rfl⟩
 have hw1:IntKind.i64.wrap ((m:Int)-x)=(pa:Int):=by rw [q5l (by omega) (by omega)]; omega
 have hpa1:¬ (pa:Int)=1:=by omega
 have hw2:IntKind.i64.wrap ((y:Int)-m)=1:=by rw [q5l (by omega) (by omega)]; omega
 refine H.q0a.view q5n rfl rfl ?_
 have h0:Hid (l=X++A++[u]++Y):=⟨hl⟩
 have h2:Hid (l2=X++srt key (A++[u])++Y):=⟨hl2⟩
 obtain⟨a1,a2⟩:=at_mid (l:=l) (P:=X++A) (z:=u) (R:=Y) (i:=m) (by rw [hl]; simp) (by simp; omega)
 clear hl hl2 hA1 hpa
 repeat' (simp -dsimp -implicitDefEqProofs [*])
 refine q5h (fun s:Nat × Nat=>[(0,.own b 0 N cap),(2,.int (m:Nat)),(4,cmpF),(14,.int (s.1:Nat)),(15,.int (s.2:Nat))]) (fun _=>(b,rowO l C)::st)
  (fun s=>Src (fun e=>key e<=key u) (fun e=>key u<key e) A x s.1 s.2) (fun s=>s.2-s.1) (x,m) (Src.init hm) (by simp) (by simp) ?_
 rintro⟨i,j⟩ hs
 simp only at hs
 have hle:=hs.le
 obtain⟨h,w1,w2,w3,hh⟩:=mid_of (i:=i) (j:=j) (by omega)
 have w5:=q5i (n:=h) (by omega)
 by_cases hij:i<j
 ·obtain⟨z,z1,z2,z3,z4⟩:=hs.step (h:=h) (X:=X) (Y:=[u]++Y) (l:=l) (by rw [h0.out]; simp) (by omega) hA (fun a b h1 h2=>by omega) (fun a b h1 h2=>by omega) (by omega) (by omega)
  have hh2:i<=h/\h<j:=by omega
  clear hh hX hm hw1 hw2 hpa1 hy
  repeat' (first 
   | (with_reducible refine Rets.xcall (by_spec _ _ _) ?_)
   | (with_reducible refine DrawLate.intro [] ?_)
   | (with_reducible refine And.intro (fun h=>?_) (fun h=>?_)) <;> (try (exfalso; omega))
   | ((with_reducible refine q5v ?_ fun hk=>?_); omega)
   | (simp -dsimp -implicitDefEqProofs [*]))
  ·exact Next.intro (i,_) (z4 ‹_›) (by simp only; omega) (by simp) q5o
  ·exact Next.intro (_,j) (z3 ‹_›) (by simp only; omega) (by simp) q5o
 ·obtain⟨A1,A2,e1,e2,e3,e4⟩:=hs.fin (by omega)
  have hlen2:X.length+A1.length+A2.length+1+Y.length=N:=by rw [<-hN,h0.out,e1]; simp; omega
  have hA12:Srtd key (A1++A2):=e1 ▸ hA
  have hres:Hid (l2=X++A1++u::A2++Y):=⟨by rw [h2.out,e1,<-k3r hA12 e3 e4]; simp⟩
  have hmi:m-i=A2.length:=by rw [e1] at hm; simp at hm; omega
  have him:i<=m:=by omega
  have h0':Hid (l=X++A1++A2.take (m-i)++u::(A2.drop (m-i)++Y)):=⟨by rw [h0.out,e1,hmi]; simp⟩
  clear e1 e3 e4 hA hA12 h2 h0 w1 w2 w3 w5 hs hh hw1 hw2 hpa1 hm
  repeat' (simp -dsimp -implicitDefEqProofs [*])
  refine q5h (fun s:Nat × List Decision=>[(0,.own b 0 N cap),(14,.int (i:Nat)),(17,.int (s.1:Nat))]) (fun s=>(b,rowO s.2 C)::st)
   (fun s=>i<=s.1/\s.1<=m/\s.2.length=N/\s.2=X++A1++A2.take (s.1-i)++u::(A2.drop (s.1-i)++Y)) (fun s=>s.1) (m,l) ⟨him,Nat.le_refl _,hN,h0'.out⟩ (by simp) (by simp) ?_
  rintro⟨k,l'⟩ ⟨hk1,hk2,hlen',hl'⟩
  simp only at hk1 hk2 hlen' hl'
  by_cases hki:i<k
  ·obtain⟨q,hq⟩:∃ q,q=k-1:=⟨_,rfl⟩
   obtain⟨v,c1,c2⟩:=cut_at (A:=A2) (i:=q-i) (by omega)
   have hwq:IntKind.i64.wrap ((k:Int)-1)=(q:Int):=by rw [q5l (by omega) (by omega)]; omega
   have hqi:q-i+1=k-i:=by omega
   rw [hqi] at c1 c2
   obtain⟨h1,h2,h3,h4,h5,h6⟩:=swap2 (l:=l') (P:=X++A1++A2.take (q-i)) (x:=v) (Q:=[]) (y:=u) (R:=A2.drop (k-i)++Y) (i:=q) (j:=k) (by rw [hl',c2]; simp) (by simp; omega) (by simp; omega)
   have hfin:Hid ((l'.set k v).set q u=X++A1++A2.take (q-i)++u::(A2.drop (q-i)++Y)):=⟨by rw [h4,c1]; simp⟩
   have hqk:q<k/\i<=q/\q<=m:=by omega
   clear hl' c1 c2 h3 h4 hq hX hmi hlen2 e2 hij hqi hy
   generalize hl3:(l'.set k v).set q u=l3 at *
   have hlen3:l3.length=N:=by rw [<-hl3]; simp [hlen']
   repeat' (simp -dsimp -implicitDefEqProofs [*])
   refine DrawLate.intro [b] ?_
   repeat' (first 
    | ((with_reducible refine q5v ?_ fun hk=>?_); omega)
    | (simp -dsimp -implicitDefEqProofs [*]))
   exact Next.intro (q,l3) ⟨hqk.2.1,hqk.2.2,hlen3,hfin.out⟩ (by simp only; omega) (by simp) q5o
  ·have hki2:k-i=0:=by omega
   have e:l'=l2:=by rw [hl',hres.out,hki2]; simp
   clear hl' hmi hX hlen2 e2 hij hy
   subst e
   repeat' (simp -dsimp -implicitDefEqProofs [*])
   exact .drop (StLe.refl _) ⟨rfl,rfl⟩
end
end SortDecision
end Go.Proofs.YtmlmoaimjifpgaaGreat
