/- Digits: lists of digits of a base, and what they are as numbers. -/
import Derived.Test.YtmlmoaimjifpgaaGreatLFr
import Derived.Test.YtmlmoaimjifpgaaGreatLRd
namespace Go.Pv
abbrev BB:Int:=1073741824
def dv:List Int->Int
 | []=>0
 | d::l=>d+BB*dv l
def dOk (l:List Int):Prop:=∀ d ∈ l,0<=d/\d<BB
def z5u (n:Nat):List Int:=if h:n=0 then [] else ((n % 1073741824:Nat):Int)::z5u (n / 1073741824)
termination_by n
decreasing_by exact Nat.div_lt_self (Nat.pos_of_ne_zero h) (by omega)
theorem digs_zero:z5u 0=[]:=by rw [z5u]; simp
theorem z3c {n:Nat}(h:n ≠ 0):z5u n=((n % 1073741824:Nat):Int)::z5u (n / 1073741824):=by rw [z5u]; simp [h]
@[simp] theorem y7f:dv []=0:=rfl
@[simp] theorem k23 (d:Int)(l:List Int):dv (d::l)=d+BB*dv l:=rfl
theorem z8h (n:Nat):dv (z5u n)=n:=by
 induction n using Nat.strongRecOn with
 | _ n ih=>
  by_cases h:n=0
  ·subst h; rw [digs_zero]; rfl
  ·rw [z3c h,k23,ih _ (Nat.div_lt_self (Nat.pos_of_ne_zero h) (by omega))]
   unfold BB
   omega
theorem y2j (n:Nat):dOk (z5u n):=by
 induction n using Nat.strongRecOn with
 | _ n ih=>
  by_cases h:n=0
  ·subst h; rw [digs_zero]; intro d hd; simp at hd
  ·rw [z3c h]
   intro d hd
   rcases List.mem_cons.1 hd with rfl | hd
   ·unfold BB; omega
   ·exact ih _ (Nat.div_lt_self (Nat.pos_of_ne_zero h) (by omega)) d hd
theorem j4s:dOk []:=fun d hd=>by simp at hd
theorem k77 {d:Int}{l:List Int}:dOk (d::l) ↔ (0<=d/\d<BB)/\dOk l:=by
 unfold dOk
 simp
theorem z1n {l m:List Int}:dOk (l++m) ↔ dOk l/\dOk m:=by
 unfold dOk
 constructor
 ·intro h; exact⟨fun d hd=>h d (by simp [hd]),fun d hd=>h d (by simp [hd])⟩
 ·rintro⟨h1,h2⟩ d hd
  rcases List.mem_append.1 hd with hd | hd
  ·exact h1 d hd
  ·exact h2 d hd
theorem z5v {l:List Int}(h:dOk l):0<=dv l:=by
 induction l with
 | nil=>exact Int.le_refl 0
 | cons d l ih=>
  have h':=k77.1 h
  have:=ih h'.2
  rw [k23]
  unfold BB at *
  omega
abbrev PB (k:Nat):Int:=BB ^ k
theorem j0p (k:Nat):0<PB k:=Int.pow_pos (by decide)
theorem z3d (k:Nat):PB (k+1)=BB*PB k:=by unfold PB; rw [Int.pow_succ,Int.mul_comm]
theorem y7g (j k:Nat):PB (j+k)=PB j*PB k:=Int.pow_add ..
theorem y7h {l:List Int}(h:dOk l):dv l<PB l.length:=by
 induction l with
 | nil=>decide
 | cons d l ih=>
  have h':=k77.1 h
  have:=ih h'.2
  rw [k23,List.length_cons,z3d]
  unfold BB at *
  omega
theorem j4t (l m:List Int):dv (l++m)=dv l+PB l.length*dv m:=by
 induction l with
 | nil=>simp
 | cons d l ih=>
  rw [List.cons_append,k23,ih,k23,List.length_cons,z3d,Int.mul_add,Int.mul_assoc]
  omega
theorem z8i (l:List Int)(d:Int):dv (l++[d])=dv l+PB l.length*d:=by
 rw [j4t]; simp
def k6w (l:List Int):List Int:=l.take (l.length-(l.reverse.takeWhile (· == 0)).length)
theorem z8j (l:List Int):k6w (l++[0])=k6w l:=by
 unfold k6w
 have hle:(l.reverse.takeWhile (· == 0)).length<=l.length:=by
  have:=(List.takeWhile_prefix (l:=l.reverse) (· == (0:Int))).length_le
  simpa using this
 simp only [List.reverse_append,List.reverse_cons,List.reverse_nil,List.nil_append,List.singleton_append,List.length_append,List.length_cons,List.length_nil]
 rw [List.takeWhile_cons_of_pos (by decide),List.length_cons]
 rw [show l.length+(0+1)-((l.reverse.takeWhile (· == 0)).length+1)=l.length-(l.reverse.takeWhile (· == 0)).length by omega]
 rw [List.take_append_of_le_length (by omega)]
theorem j2a {l:List Int}{d:Int}(h:d ≠ 0):k6w (l++[d])=l++[d]:=by
 unfold k6w
 simp only [List.reverse_append,List.reverse_cons,List.reverse_nil,List.nil_append,List.singleton_append]
 rw [List.takeWhile_cons_of_neg (by simpa using h)]
 exact List.take_of_length_le (by simp)
def j4u (l:List Int):Prop:=dOk l/\∀ m,l ≠ m++[0]
theorem z1o {d:Int}{l:List Int}(h:j4u (d::l)):j4u l:=⟨(k77.1 h.1).2,fun m hm=>h.2 (d::m) (by rw [hm]; rfl)⟩
theorem j8d {l:List Int}(h:j4u l):l=z5u (dv l).toNat:=by
 induction l with
 | nil=>rw [y7f]; exact digs_zero.symm
 | cons d l ih=>
  have ih':=ih (z1o h)
  have hd:=(k77.1 h.1).1
  have hl:=z5v (z1o h).1
  have hne:(dv (d::l)).toNat ≠ 0:=by
   intro h0
   rw [k23] at h0
   unfold BB at *
   have h1:dv l=0:=by omega
   have h2:d=0:=by omega
   rw [h1] at ih'
   have h3:l=[]:=by rw [ih']; simp [digs_zero]
   subst h3; subst h2
   exact h.2 [] rfl
  rw [z3c hne]
  have e1:(((dv (d::l)).toNat % 1073741824:Nat):Int)=d:=by rw [k23] at *; unfold BB at *; omega
  have e2:(dv (d::l)).toNat / 1073741824=(dv l).toNat:=by rw [k23] at *; unfold BB at *; omega
  rw [e1,e2,<-ih']
theorem z8k {l:List Int}(h:dOk l):j4u (k6w l)/\dv (k6w l)=dv l:=by
 have key:∀ r:List Int,dOk r.reverse->j4u (k6w r.reverse)/\dv (k6w r.reverse)=dv r.reverse:=by
  intro r
  induction r with
  | nil=>intro _; exact⟨⟨j4s,fun m hm=>by simp [k6w] at hm⟩,rfl⟩
  | cons d r ih=>
   intro hr
   rw [List.reverse_cons] at hr ⊢
   by_cases hd:d=0
   ·subst hd
    rw [z8j,z8i,Int.mul_zero,Int.add_zero]
    exact ih (z1n.1 hr).1
   ·rw [j2a hd]
    exact⟨⟨hr,fun m hm=>by have:=List.append_inj' hm rfl; simp at this; exact hd this.2⟩,rfl⟩
 have:=key l.reverse (by simpa using h)
 simpa using this
theorem j8e {l:List Int}(h:dOk l){n:Nat}(hn:dv l=n):k6w l=z5u n:=by
 obtain⟨h1,h2⟩:=z8k h
 rw [j8d h1,h2,hn]
 rfl
theorem z8l (n:Nat):(n:Int)<PB (z5u n).length:=by rw [<-z8h n]; exact y7h (y2j n)
theorem j4v {j k:Nat}(h:j<=k):PB j<=PB k:=by
 obtain⟨i,rfl⟩:=Nat.exists_eq_add_of_le h
 rw [y7g]
 have h1:=j0p j
 have h2:=j0p i
 calc PB j=PB j*1:=by rw [Int.mul_one]
  _<=PB j*PB i:=Int.mul_le_mul_of_nonneg_left (by omega) (by omega)
theorem z5w {l:List Int}{i:Nat}(h:i<l.length):dv (l.take (i+1))=dv (l.take i)+PB i*l[i]:=by
 rw [List.take_succ_eq_append_getElem h,z8i,List.length_take,Nat.min_eq_left (by omega)]
section
variable (a:Int) (K:PV->Prop)
end
section
variable {h v1 v2 u2 W vr tr V T g:Int}
structure Kn (h v1 v2 u2 W vr tr V T:Int):Prop where
 v1a:536870912<=v1
 v1b:v1<BB
 v2a:0<=v2
 v2b:v2<BB
 u2a:0<=u2
 u2b:u2<BB
 Wp:0<W
 vra:0<=vr
 vrb:vr<W
 tra:0<=tr
 trb:tr<W
 Ve:V=(v1*BB+v2)*W+vr
 Te:T=(h*BB+u2)*W+tr
 hp:0<=h
 lt:T<BB*V
end
abbrev dl (n:Nat):Nat:=(z5u n).length
def zC (t:Bool)(z:Int):List PV:=[.bool (decide (z<0)),j0n t (z5u z.natAbs)]
def fact:Nat->Nat
 | 0=>1
 | n+1=>(n+1)*fact n
def z5x (f:Nat->Int):Nat->List Int × Int
 | 0=>([],0)
 | n+1=>let p:=z5x f n; let s:=f n+p.2; (p.1++[s % BB],s / BB)
def j4w (f:Nat->Int):Nat->Int
 | 0=>0
 | n+1=>j4w f n+PB n*f n
theorem z3e (f:Nat->Int):∀ n,(z5x f n).1.length=n
 | 0=>rfl
 | n+1=>by simp [z5x,z3e f n]
theorem j4x (f:Nat->Int):∀ n,dOk (z5x f n).1
 | 0=>j4s
 | n+1=>by
  simp only [z5x]
  refine z1n.2 ⟨j4x f n,fun d hd=>?_⟩
  rw [List.mem_singleton.1 hd]
  exact⟨Int.emod_nonneg _ (by decide),Int.emod_lt_of_pos _ (by decide)⟩
theorem j0q (f:Nat->Int):∀ n,dv (z5x f n).1+PB n*(z5x f n).2=j4w f n
 | 0=>rfl
 | n+1=>by
  simp only [z5x,j4w]
  rw [z8i,z3e,<-j0q f n,z3d]
  have h:=Int.emod_add_mul_ediv (f n+(z5x f n).2) BB
  have e:PB n*((f n+(z5x f n).2) % BB)+BB*PB n*((f n+(z5x f n).2) / BB)=PB n*(f n+(z5x f n).2):=by
   conv=>rhs; rw [<-h,Int.mul_add,<-Int.mul_assoc,Int.mul_comm (PB n) BB]
  rw [Int.mul_add] at e
  omega
theorem j4y {f:Nat->Int}{n m:Nat}(hs:j4w f n=m)(hm:(m:Int)<PB n):k6w (z5x f n).1=z5u m:=by
 have h1:=j0q f n
 have h2:=j4x f n
 have h3:=z5v h2
 have h4:=y7h h2
 rw [z3e] at h4
 have hp:=j0p n
 refine j8e h2 ?_
 have h0:(z5x f n).2=0:=by
  apply Int.le_antisymm
  ·apply Int.not_lt.1
   intro h
   have:=Int.mul_le_mul_of_nonneg_left (show 1<=(z5x f n).2 by omega) (show 0<=PB n by omega)
   omega
  ·apply Int.not_lt.1
   intro h
   have:=Int.mul_le_mul_of_nonneg_left (show (z5x f n).2<=-1 by omega) (show 0<=PB n by omega)
   omega
 rw [h0,Int.mul_zero] at h1
 omega
def dAt (l:List Int)(i:Nat):Int:=l.getD i 0
theorem y7i {l:List Int}{i:Nat}(h:i<l.length):dAt l i=l[i]:=by simp [dAt,h]
theorem y7j {l:List Int}{i:Nat}(h:l.length<=i):dAt l i=0:=by simp [dAt,h]
theorem z5y (l:List Int):∀ n,j4w (dAt l) n=dv (l.take n)
 | 0=>rfl
 | n+1=>by
  rw [j4w,z5y l n]
  by_cases h:n<l.length
  ·rw [z5w h,y7i h]
  ·rw [y7j (by omega),Int.mul_zero,Int.add_zero,List.take_of_length_le (by omega),List.take_of_length_le (by omega)]
theorem z5z {l:List Int}{n:Nat}(h:l.length<=n):j4w (dAt l) n=dv l:=by rw [z5y,List.take_of_length_le h]
theorem j0r (f g:Nat->Int):∀ n,j4w (fun i=>f i+g i) n=j4w f n+j4w g n
 | 0=>rfl
 | n+1=>by
  simp only [j4w]; rw [j0r f g n,Int.mul_add]; omega
def lsR {α:Type}:Option α->LoopState
 | none=>.ready
 | some _=>.done
def lpR {α:Type}:Option α->Option Code
 | none=>none
 | some _=>some .ret
@[simp] theorem y9v {α:Type}:lsR (none:Option α)=.ready:=rfl
@[simp] theorem y9w {α:Type}(a:α):lsR (some a)=.done:=rfl
@[simp] theorem y9x {α:Type}:lpR (none:Option α)=none:=rfl
@[simp] theorem y9y {α:Type}(a:α):lpR (some a)=some .ret:=rfl
@[simp] theorem wrapL0:IntKind.i64.wrap 0=0:=q5l (by decide) (by decide)
@[simp] theorem wrapL1:IntKind.i64.wrap 1=1:=q5l (by decide) (by decide)
theorem j4z (a:Nat):(a:Int)<PB (dl a):=by
 have:=z8l a
 exact this
theorem addD (a b:Nat):k6w (z5x (fun i=>dAt (z5u a) i+dAt (z5u b) i) (max (dl a) (dl b)+1)).1=z5u (a+b):=by
 refine j4y ?_ ?_
 ·rw [j0r,z5z (by show dl a<=_; omega),z5z (by show dl b<=_; omega),z8h,z8h]
  omega
 ·have h1:=j4z a
  have h2:=j4z b
  have h3:=j4v (show dl a<=max (dl a) (dl b) by omega)
  have h4:=j4v (show dl b<=max (dl a) (dl b) by omega)
  have h5:=j0p (max (dl a) (dl b))
  rw [z3d]
  generalize PB (max (dl a) (dl b))=p at *
  unfold BB
  omega
theorem PsLe.vcells:∀ {ps qs:List PV} (_:PsLe ps qs) (I:Imm) (vs:List Value),vcells I ps vs->vcells I qs vs
 | [],[],_,_,_,h=>h
 | p::ps,q::qs,hw,I,[],h=>by simp [Go.Pv.vcells] at h
 | p::ps,q::qs,hw,I,v::vs,h=>by
  simp only [Go.Pv.vcells] at h ⊢
  exact⟨⟨hw.1 I v h.1.1,h.1.2⟩,PsLe.vcells hw.2 I vs h.2⟩
end Go.Pv
