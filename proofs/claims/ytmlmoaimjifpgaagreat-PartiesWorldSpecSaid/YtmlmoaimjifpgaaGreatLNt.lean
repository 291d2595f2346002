/- Digits: lists of digits of a base, and what they are as numbers. -/
import Derived.Test.YtmlmoaimjifpgaaGreatLFr
import Derived.Test.YtmlmoaimjifpgaaGreatLRd
namespace Go.Pv
abbrev BB:Int:=1073741824
def dv:List Int->Int
 | []=>0
 | d::l=>d+BB*dv l
def dOk (l:List Int):Prop:=∀ d ∈ l,0<=d/\d<BB
def z5x (n:Nat):List Int:=if h:n=0 then [] else ((n % 1073741824:Nat):Int)::z5x (n / 1073741824)
termination_by n
decreasing_by exact Nat.div_lt_self (Nat.pos_of_ne_zero h) (by omega)
theorem digs_zero:z5x 0=[]:=by rw [z5x]; simp
theorem z3m {n:Nat}(h:n ≠ 0):z5x n=((n % 1073741824:Nat):Int)::z5x (n / 1073741824):=by rw [z5x]; simp [h]
@[simp] theorem y7g:dv []=0:=rfl
@[simp] theorem k2x (d:Int)(l:List Int):dv (d::l)=d+BB*dv l:=rfl
theorem z8q (n:Nat):dv (z5x n)=n:=by
 induction n using Nat.strongRecOn with
 | _ n ih=>
  by_cases h:n=0
  ·subst h; rw [digs_zero]; rfl
  ·rw [z3m h,k2x,ih _ (Nat.div_lt_self (Nat.pos_of_ne_zero h) (by omega))]
   unfold BB
   omega
theorem y18 (n:Nat):dOk (z5x n):=by
 induction n using Nat.strongRecOn with
 | _ n ih=>
  by_cases h:n=0
  ·subst h; rw [digs_zero]; intro d hd; simp at hd
  ·rw [z3m h]
   intro d hd
   rcases List.mem_cons.1 hd with rfl | hd
   ·unfold BB; omega
   ·exact ih _ (Nat.div_lt_self (Nat.pos_of_ne_zero h) (by omega)) d hd
theorem j43:dOk []:=fun d hd=>by simp at hd
theorem k76 {d:Int}{l:List Int}:dOk (d::l) ↔ (0<=d/\d<BB)/\dOk l:=by
 unfold dOk
 simp
theorem z1v {l m:List Int}:dOk (l++m) ↔ dOk l/\dOk m:=by
 unfold dOk
 constructor
 ·intro h; exact⟨fun d hd=>h d (by simp [hd]),fun d hd=>h d (by simp [hd])⟩
 ·rintro⟨h1,h2⟩ d hd
  rcases List.mem_append.1 hd with hd | hd
  ·exact h1 d hd
  ·exact h2 d hd
theorem z5y {l:List Int}(h:dOk l):0<=dv l:=by
 induction l with
 | nil=>exact Int.le_refl 0
 | cons d l ih=>
  have h':=k76.1 h
  have:=ih h'.2
  rw [k2x]
  unfold BB at *
  omega
abbrev PB (k:Nat):Int:=BB ^ k
theorem j0z (k:Nat):0<PB k:=Int.pow_pos (by decide)
theorem z3n (k:Nat):PB (k+1)=BB*PB k:=by unfold PB; rw [Int.pow_succ,Int.mul_comm]
theorem y7h (j k:Nat):PB (j+k)=PB j*PB k:=Int.pow_add ..
theorem y7i {l:List Int}(h:dOk l):dv l<PB l.length:=by
 induction l with
 | nil=>decide
 | cons d l ih=>
  have h':=k76.1 h
  have:=ih h'.2
  rw [k2x,List.length_cons,z3n]
  unfold BB at *
  omega
theorem j44 (l m:List Int):dv (l++m)=dv l+PB l.length*dv m:=by
 induction l with
 | nil=>simp
 | cons d l ih=>
  rw [List.cons_append,k2x,ih,k2x,List.length_cons,z3n,Int.mul_add,Int.mul_assoc]
  omega
theorem z8r (l:List Int)(d:Int):dv (l++[d])=dv l+PB l.length*d:=by
 rw [j44]; simp
def k6p (l:List Int):List Int:=l.take (l.length-(l.reverse.takeWhile (· == 0)).length)
theorem z8s (l:List Int):k6p (l++[0])=k6p l:=by
 unfold k6p
 have hle:(l.reverse.takeWhile (· == 0)).length<=l.length:=by
  have:=(List.takeWhile_prefix (l:=l.reverse) (· == (0:Int))).length_le
  simpa using this
 simp only [List.reverse_append,List.reverse_cons,List.reverse_nil,List.nil_append,List.singleton_append,List.length_append,List.length_cons,List.length_nil]
 rw [List.takeWhile_cons_of_pos (by decide),List.length_cons]
 rw [show l.length+(0+1)-((l.reverse.takeWhile (· == 0)).length+1)=l.length-(l.reverse.takeWhile (· == 0)).length by omega]
 rw [List.take_append_of_le_length (by omega)]
theorem j2k {l:List Int}{d:Int}(h:d ≠ 0):k6p (l++[d])=l++[d]:=by
 unfold k6p
 simp only [List.reverse_append,List.reverse_cons,List.reverse_nil,List.nil_append,List.singleton_append]
 rw [List.takeWhile_cons_of_neg (by simpa using h)]
 exact List.take_of_length_le (by simp)
def j45 (l:List Int):Prop:=dOk l/\∀ m,l ≠ m++[0]
theorem z1w {d:Int}{l:List Int}(h:j45 (d::l)):j45 l:=⟨(k76.1 h.1).2,fun m hm=>h.2 (d::m) (by rw [hm]; rfl)⟩
theorem j8h {l:List Int}(h:j45 l):l=z5x (dv l).toNat:=by
 induction l with
 | nil=>rw [y7g]; exact digs_zero.symm
 | cons d l ih=>
  have ih':=ih (z1w h)
  have hd:=(k76.1 h.1).1
  have hl:=z5y (z1w h).1
  have hne:(dv (d::l)).toNat ≠ 0:=by
   intro h0
   rw [k2x] at h0
   unfold BB at *
   have h1:dv l=0:=by omega
   have h2:d=0:=by omega
   rw [h1] at ih'
   have h3:l=[]:=by rw [ih']; simp [digs_zero]
   subst h3; subst h2
   exact h.2 [] rfl
  rw [z3m hne]
  have e1:(((dv (d::l)).toNat % 1073741824:Nat):Int)=d:=by rw [k2x] at *; unfold BB at *; omega
  have e2:(dv (d::l)).toNat / 1073741824=(dv l).toNat:=by rw [k2x] at *; unfold BB at *; omega
  rw [e1,e2,<-ih']
theorem z8t {l:List Int}(h:dOk l):j45 (k6p l)/\dv (k6p l)=dv l:=by
 have key:∀ r:List Int,dOk r.reverse->j45 (k6p r.reverse)/\dv (k6p r.reverse)=dv r.reverse:=by
  intro r
  induction r with
  | nil=>intro _; exact⟨⟨j43,fun m hm=>by simp [k6p] at hm⟩,rfl⟩
  | cons d r ih=>
   intro hr
   rw [List.reverse_cons] at hr ⊢
   by_cases hd:d=0
   ·subst hd
    rw [z8s,z8r,Int.mul_zero,Int.add_zero]
    exact ih (z1v.1 hr).1
   ·rw [j2k hd]
    exact⟨⟨hr,fun m hm=>by have:=List.append_inj' hm rfl; simp at this; exact hd this.2⟩,rfl⟩
 have:=key l.reverse (by simpa using h)
 simpa using this
theorem j8i {l:List Int}(h:dOk l){n:Nat}(hn:dv l=n):k6p l=z5x n:=by
 obtain⟨h1,h2⟩:=z8t h
 rw [j8h h1,h2,hn]
 rfl
theorem z8u (n:Nat):(n:Int)<PB (z5x n).length:=by rw [<-z8q n]; exact y7i (y18 n)
theorem j46 {j k:Nat}(h:j<=k):PB j<=PB k:=by
 obtain⟨i,rfl⟩:=Nat.exists_eq_add_of_le h
 rw [y7h]
 have h1:=j0z j
 have h2:=j0z i
 calc PB j=PB j*1:=by rw [Int.mul_one]
  _<=PB j*PB i:=Int.mul_le_mul_of_nonneg_left (by omega) (by omega)
theorem z5z {l:List Int}{i:Nat}(h:i<l.length):dv (l.take (i+1))=dv (l.take i)+PB i*l[i]:=by
 rw [List.take_succ_eq_append_getElem h,z8r,List.length_take,Nat.min_eq_left (by omega)]
section
variable (a:Int) (K:PV->Prop)
end
section
variable {h v1 v2 u2 W vr tr V T g:Int}
structure Kn (h v1 v2 u2 W vr tr V T:Int):Prop where
 v1a:536870912<=v1
 v1b:v1<BB
 v2a:0<=v2
 v2b:v2<BB
 u2a:0<=u2
 u2b:u2<BB
 Wp:0<W
 vra:0<=vr
 vrb:vr<W
 tra:0<=tr
 trb:tr<W
 Ve:V=(v1*BB+v2)*W+vr
 Te:T=(h*BB+u2)*W+tr
 hp:0<=h
 lt:T<BB*V
end
abbrev dl (n:Nat):Nat:=(z5x n).length
def zC (t:Bool)(z:Int):List PV:=[.bool (decide (z<0)),q6l t (z5x z.natAbs)]
def fact:Nat->Nat
 | 0=>1
 | n+1=>(n+1)*fact n
def z51 (f:Nat->Int):Nat->List Int × Int
 | 0=>([],0)
 | n+1=>let p:=z51 f n; let s:=f n+p.2; (p.1++[s % BB],s / BB)
def j47 (f:Nat->Int):Nat->Int
 | 0=>0
 | n+1=>j47 f n+PB n*f n
theorem z3o (f:Nat->Int):∀ n,(z51 f n).1.length=n
 | 0=>rfl
 | n+1=>by simp [z51,z3o f n]
theorem j48 (f:Nat->Int):∀ n,dOk (z51 f n).1
 | 0=>j43
 | n+1=>by
  simp only [z51]
  refine z1v.2 ⟨j48 f n,fun d hd=>?_⟩
  rw [List.mem_singleton.1 hd]
  exact⟨Int.emod_nonneg _ (by decide),Int.emod_lt_of_pos _ (by decide)⟩
theorem j00 (f:Nat->Int):∀ n,dv (z51 f n).1+PB n*(z51 f n).2=j47 f n
 | 0=>rfl
 | n+1=>by
  simp only [z51,j47]
  rw [z8r,z3o,<-j00 f n,z3n]
  have h:=Int.emod_add_mul_ediv (f n+(z51 f n).2) BB
  have e:PB n*((f n+(z51 f n).2) % BB)+BB*PB n*((f n+(z51 f n).2) / BB)=PB n*(f n+(z51 f n).2):=by
   conv=>rhs; rw [<-h,Int.mul_add,<-Int.mul_assoc,Int.mul_comm (PB n) BB]
  rw [Int.mul_add] at e
  omega
theorem j49 {f:Nat->Int}{n m:Nat}(hs:j47 f n=m)(hm:(m:Int)<PB n):k6p (z51 f n).1=z5x m:=by
 have h1:=j00 f n
 have h2:=j48 f n
 have h3:=z5y h2
 have h4:=y7i h2
 rw [z3o] at h4
 have hp:=j0z n
 refine j8i h2 ?_
 have h0:(z51 f n).2=0:=by
  apply Int.le_antisymm
  ·apply Int.not_lt.1
   intro h
   have:=Int.mul_le_mul_of_nonneg_left (show 1<=(z51 f n).2 by omega) (show 0<=PB n by omega)
   omega
  ·apply Int.not_lt.1
   intro h
   have:=Int.mul_le_mul_of_nonneg_left (show (z51 f n).2<=-1 by omega) (show 0<=PB n by omega)
   omega
 rw [h0,Int.mul_zero] at h1
 omega
def dAt (l:List Int)(i:Nat):Int:=l.getD i 0
theorem y7j {l:List Int}{i:Nat}(h:i<l.length):dAt l i=l[i]:=by simp [dAt,h]
theorem y7k {l:List Int}{i:Nat}(h:l.length<=i):dAt l i=0:=by simp [dAt,h]
theorem z52 (l:List Int):∀ n,j47 (dAt l) n=dv (l.take n)
 | 0=>rfl
 | n+1=>by
  rw [j47,z52 l n]
  by_cases h:n<l.length
  ·rw [z5z h,y7j h]
  ·rw [y7k (by omega),Int.mul_zero,Int.add_zero,List.take_of_length_le (by omega),List.take_of_length_le (by omega)]
theorem z54 {l:List Int}{n:Nat}(h:l.length<=n):j47 (dAt l) n=dv l:=by rw [z52,List.take_of_length_le h]
theorem j01 (f g:Nat->Int):∀ n,j47 (fun i=>f i+g i) n=j47 f n+j47 g n
 | 0=>rfl
 | n+1=>by
  simp only [j47]; rw [j01 f g n,Int.mul_add]; omega
def lsR {α:Type}:Option α->LoopState
 | none=>.ready
 | some _=>.done
def lpR {α:Type}:Option α->Option Code
 | none=>none
 | some _=>some .ret
@[simp] theorem y91 {α:Type}:lsR (none:Option α)=.ready:=rfl
@[simp] theorem y92 {α:Type}(a:α):lsR (some a)=.done:=rfl
@[simp] theorem y93 {α:Type}:lpR (none:Option α)=none:=rfl
@[simp] theorem y94 {α:Type}(a:α):lpR (some a)=some .ret:=rfl
@[simp] theorem wrapL0:IntKind.i64.wrap 0=0:=q5i (by decide) (by decide)
@[simp] theorem wrapL1:IntKind.i64.wrap 1=1:=q5i (by decide) (by decide)
theorem j5a (a:Nat):(a:Int)<PB (dl a):=by
 have:=z8u a
 exact this
theorem addD (a b:Nat):k6p (z51 (fun i=>dAt (z5x a) i+dAt (z5x b) i) (max (dl a) (dl b)+1)).1=z5x (a+b):=by
 refine j49 ?_ ?_
 ·rw [j01,z54 (by show dl a<=_; omega),z54 (by show dl b<=_; omega),z8q,z8q]
  omega
 ·have h1:=j5a a
  have h2:=j5a b
  have h3:=j46 (show dl a<=max (dl a) (dl b) by omega)
  have h4:=j46 (show dl b<=max (dl a) (dl b) by omega)
  have h5:=j0z (max (dl a) (dl b))
  rw [z3n]
  generalize PB (max (dl a) (dl b))=p at *
  unfold BB
  omega
theorem PsLe.vcells:∀ {ps qs:List PV} (_:PsLe ps qs) (I:Imm) (vs:List Value),vcells I ps vs->vcells I qs vs
 | [],[],_,_,_,h=>h
 | p::ps,q::qs,hw,I,[],h=>by simp [Go.Pv.vcells] at h
 | p::ps,q::qs,hw,I,v::vs,h=>by
  simp only [Go.Pv.vcells] at h ⊢
  exact⟨⟨hw.1 I v h.1.1,h.1.2⟩,PsLe.vcells hw.2 I vs h.2⟩
end Go.Pv
