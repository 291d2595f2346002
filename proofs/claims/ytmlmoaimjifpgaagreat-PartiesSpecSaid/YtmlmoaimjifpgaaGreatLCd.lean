/- Codec, plain: numerals, values, their bytes and back. -/
import Derived.Lib.Bytealg
import Derived.Test.YtmlmoaimjifpgaaGreatLPv
import Derived.Test.YtmlmoaimjifpgaaGreatLVf
namespace Go.Pv.Cd
def j0t (n:Nat):List (BitVec 8):=if n<128 then [BitVec.ofNat 8 n] else BitVec.ofNat 8 (n % 128+128)::j0t (n / 128)
theorem z8o {n:Nat}(h:n<128):j0t n=[BitVec.ofNat 8 n]:=by rw [j0t,if_pos h]
theorem z8p {n:Nat}(h:¬ n<128):j0t n=BitVec.ofNat 8 (n % 128+128)::j0t (n / 128):=by rw [j0t,if_neg h]
def k05:Nat->List (BitVec 8)->Option (Nat × List (BitVec 8))
 | _,[]=>none
 | i,c::r=>
  if (i=0\/c.toNat ≠ 0)/\(i<9\/c.toNat<=1) then
   if c.toNat<128 then some (c.toNat,r)
   else match k05 (i+1) r with
    | some (u,r')=>some (c.toNat % 128+128*u,r')
    | none=>none
  else none
theorem j43 (i:Nat):128 ^ i=2 ^ (7*i):=by rw [show (128:Nat)=2 ^ 7 from rfl,<-Nat.pow_mul]
theorem ofNat_toNat {n:Nat}(h:n<256):(BitVec.ofNat 8 n).toNat=n:=by
 rw [BitVec.toNat_ofNat]
 exact Nat.mod_eq_of_lt h
theorem j44:∀ (i n:Nat) (r:List (BitVec 8)),n*128 ^ i<2 ^ 64->(i=0\/0<n)->k05 i (j0t n++r)=some (n,r):=by
 intro i n
 induction n using Nat.strongRecOn generalizing i with
 | _ n ih=>
  intro r h h0
  by_cases hn:n<128
  ·rw [z8o hn]
   simp only [List.singleton_append,k05]
   rw [ofNat_toNat (by omega)]
   have h9:i<9\/n<=1:=by
    by_cases h9:i<9
    ·exact .inl h9
    ·right
     have:128 ^ 9<=128 ^ i:=Nat.pow_le_pow_right (by decide) (by omega)
     have e:(128:Nat) ^ 9=2 ^ 63:=by decide
     by_cases h2:n<=1
     ·exact h2
     ·have h3:2*128 ^ 9<=n*128 ^ i:=Nat.mul_le_mul (by omega) this
      rw [e] at h3
      omega
   rw [if_pos ⟨by omega,h9⟩,if_pos hn]
  ·rw [z8p hn]
   simp only [List.cons_append,k05]
   rw [ofNat_toNat (by omega)]
   have h9:i<9:=by
    by_cases h9:i<9
    ·exact h9
    ·exfalso
     have:128 ^ 9<=128 ^ i:=Nat.pow_le_pow_right (by decide) (by omega)
     have e:(128:Nat) ^ 9=2 ^ 63:=by decide
     have h3:2*128 ^ 9<=n*128 ^ i:=Nat.mul_le_mul (by omega) this
     rw [e] at h3
     omega
   rw [if_pos ⟨by omega,.inl h9⟩,if_neg (by omega)]
   have h1:n / 128*128 ^ (i+1)<2 ^ 64:=by
    rw [Nat.pow_succ,Nat.mul_comm (128 ^ i),<-Nat.mul_assoc]
    exact Nat.lt_of_le_of_lt (Nat.mul_le_mul_right _ (Nat.div_mul_le_self n 128)) h
   rw [ih (n / 128) (by omega) (i+1) r h1 (.inr (by omega))]
   simp only
   congr 2
   omega
theorem q75:∀ (i:Nat) (b:List (BitVec 8)) (n:Nat) (r:List (BitVec 8)),k05 i b=some (n,r)->b=j0t n++r/\(i=0\/0<n)/\(i<=9->n*128 ^ i<2 ^ 64)
 | i,[],n,r,h=>by simp [k05] at h
 | i,c::b,n,r,h=>by
  simp only [k05] at h
  have hc:=c.isLt
  split at h
  ·rename_i h1
   split at h
   ·rename_i h2
    simp only [Option.some.injEq,Prod.mk.injEq] at h
    obtain⟨rfl,rfl⟩:=h
    refine⟨by rw [z8o h2,BitVec.ofNat_toNat]; simp,by omega,fun hi=>?_⟩
    rcases h1.2 with h3 | h3
    ·have e1:128 ^ i<=128 ^ 8:=Nat.pow_le_pow_right (by decide) (by omega)
     have e2:c.toNat*128 ^ i<=128*128 ^ 8:=Nat.mul_le_mul (by omega) e1
     have e3:128*128 ^ 8<2 ^ 64:=by decide
     omega
    ·have e1:128 ^ i<=128 ^ 9:=Nat.pow_le_pow_right (by decide) hi
     have e2:c.toNat*128 ^ i<=1*128 ^ 9:=Nat.mul_le_mul h3 e1
     have e3:1*128 ^ 9<2 ^ 64:=by decide
     omega
   ·rename_i h2
    have hi:i<9:=by omega
    cases e:k05 (i+1) b with
    | none=>rw [e] at h; cases h
    | some q=>
     obtain⟨u,r'⟩:=q
     rw [e] at h
     simp only [Option.some.injEq,Prod.mk.injEq] at h
     obtain⟨rfl,rfl⟩:=h
     obtain⟨k1,k2,k3⟩:=q75 (i+1) b u r' e
     have hu:0<u:=by omega
     refine⟨?_,by omega,fun _=>?_⟩
     ·rw [z8p (by omega),show (c.toNat % 128+128*u) % 128+128=c.toNat by omega,show (c.toNat % 128+128*u) / 128=u by omega,k1]
      simp
     ·have k4:=k3 (by omega)
      have e0:(c.toNat % 128+128*u)*128 ^ i=c.toNat % 128*128 ^ i+u*128 ^ (i+1):=by
       rw [Nat.add_mul,Nat.pow_succ]
       congr 1
       rw [Nat.mul_comm (128 ^ i),Nat.mul_comm 128 u,Nat.mul_assoc]
      rw [e0]
      have e1:128 ^ (i+1)=128 ^ i*128:=Nat.pow_succ ..
      -- u * p ≤ 2^64 - p, since p divides 2^64 or p = 2^63 · 2 ..
      have hp:∃ q,2 ^ 64=q*128 ^ (i+1)\/i+1=10:=by
       by_cases h8:i+1<=9
       ·refine⟨2 ^ (64-7*(i+1)),.inl ?_⟩
        rw [j43,<-Nat.pow_add]
        congr 1
        omega
       ·exact⟨0,.inr (by omega)⟩
      obtain⟨q,hq | hq⟩:=hp
      ·rw [hq] at k4 ⊢
       have hlt:u<q:=by
        by_cases hh:u<q
        ·exact hh
        ·exfalso
         have:=Nat.mul_le_mul_right (128 ^ (i+1)) (show q<=u by omega)
         omega
       have h5:(u+1)*128 ^ (i+1)<=q*128 ^ (i+1):=Nat.mul_le_mul_right _ hlt
       rw [Nat.add_mul,Nat.one_mul] at h5
       have h6:c.toNat % 128*128 ^ i<128 ^ (i+1):=by
        rw [e1,Nat.mul_comm (128 ^ i)]
        exact Nat.mul_lt_mul_of_pos_right (Nat.mod_lt _ (by decide)) (Nat.pow_pos (by decide))
       omega
      ·omega
  ·cases h
def zig (n:Int):Nat:=if 0<=n then 2*n.toNat else 2*(-(n+1)).toNat+1
def zag (u:Nat):Int:=if u % 2=1 then -((u / 2:Nat):Int)-1 else ((u / 2:Nat):Int)
theorem y2o (n:Int):zag (zig n)=n:=by
 unfold zag zig
 split <;> split <;> omega
theorem j45 (u:Nat):zig (zag u)=u:=by
 unfold zag zig
 split <;> split <;> omega
theorem j46 {n:Int}(h:-9223372036854775808<=n/\n<9223372036854775808):zig n<18446744073709551616:=by
 unfold zig
 split <;> omega
theorem y0y {u:Nat}(h:u<18446744073709551616):-9223372036854775808<=zag u/\zag u<9223372036854775808:=by
 unfold zag
 split <;> omega
inductive Vl where
 | int (n:Int)
 | text (s:List (BitVec 8))
 | list (l:List Vl)
 deriving Inhabited
mutual
def Vl.enc:Vl->List (BitVec 8)
 | .int n=>1#8::j0t (zig n)
 | .text s=>2#8::(j0t s.length++s)
 | .list l=>3#8::(j0t l.length++Vl.encs l)
def Vl.encs:List Vl->List (BitVec 8)
 | []=>[]
 | v::l=>v.enc++Vl.encs l
end
def k2d (f:List (BitVec 8)->Option (Vl × List (BitVec 8))):Nat->List (BitVec 8)->Option (List Vl × List (BitVec 8))
 | 0,b=>some ([],b)
 | n+1,b=>match f b with
  | none=>none
  | some (v,r)=>match k2d f n r with
   | none=>none
   | some (l,r')=>some (v::l,r')
def decV:Nat->List (BitVec 8)->Option (Vl × List (BitVec 8))
 | _,[]=>none
 | d,k::b=>
  if k=1#8 then match k05 0 b with
   | some (u,r)=>some (.int (zag u),r)
   | none=>none
  else if k=2#8 then match k05 0 b with
   | some (n,r)=>if n<=r.length then some (.text (r.take n),r.drop n) else none
   | none=>none
  else if k=3#8 then match d with
   | 0=>none
   | d+1=>match k05 0 b with
    | some (n,r)=>if n<=r.length then match k2d (decV d) n r with
      | some (l,r')=>some (.list l,r')
      | none=>none
     else none
    | none=>none
  else none
def decode (b:List (BitVec 8)):Option Vl:=match decV 16 b with
 | some (v,[])=>some v
 | _=>none
mutual
def Vl.fit:Nat->Vl->Prop
 | _,.int n=>-9223372036854775808<=n/\n<9223372036854775808
 | _,.text s=>s.length<18446744073709551616
 | 0,.list _=>False
 | d+1,.list l=>l.length<18446744073709551616/\Vl.fits d l
def Vl.fits:Nat->List Vl->Prop
 | _,[]=>True
 | d,v::l=>Vl.fit d v/\Vl.fits d l
end
theorem Vl.encs_len:∀ l:List Vl,l.length<=(Vl.encs l).length
 | []=>Nat.le_refl _
 | v::l=>by
  have:=Vl.encs_len l
  have h:0<v.enc.length:=by cases v <;> simp [Vl.enc]
  simp only [Vl.encs,List.length_cons,List.length_append]
  omega
theorem y2p {n:Nat}(h:n<18446744073709551616)(r:List (BitVec 8)):k05 0 (j0t n++r)=some (n,r):=j44 0 n r (by omega) (.inl rfl)
mutual
theorem j0u:∀ (d:Nat) (v:Vl) (r:List (BitVec 8)),v.fit d->decV d (v.enc++r)=some (v,r)
 | d,.int n,r,h=>by
  rw [Vl.enc,List.cons_append,decV.eq_def]
  simp only [if_pos]
  have h:-9223372036854775808<=n/\n<9223372036854775808:=by simpa only [Vl.fit] using h
  rw [y2p (j46 h)]
  simp only [y2o]
 | d,.text s,r,h=>by
  have h:s.length<18446744073709551616:=by simpa only [Vl.fit] using h
  rw [Vl.enc,List.cons_append,decV.eq_def]
  simp only [if_neg (show ¬ (2#8:BitVec 8)=1#8 by decide),if_pos]
  rw [List.append_assoc,y2p h]
  simp only [if_pos (show s.length<=(s++r).length by rw [List.length_append]; omega)]
  rw [List.take_left' rfl,List.drop_left' rfl]
 | 0,.list l,r,h=>by simp only [Vl.fit] at h
 | d+1,.list l,r,h=>by
  simp only [Vl.fit] at h
  rw [Vl.enc,List.cons_append,decV.eq_def]
  simp only [if_neg (show ¬ (3#8:BitVec 8)=1#8 by decide),if_neg (show ¬ (3#8:BitVec 8)=2#8 by decide),if_pos]
  rw [List.append_assoc,y2p h.1]
  have hl:=Vl.encs_len l
  simp only [if_pos (show l.length<=(Vl.encs l++r).length by rw [List.length_append]; omega)]
  rw [z54 d l r h.2]
theorem z54:∀ (d:Nat) (l:List Vl) (r:List (BitVec 8)),Vl.fits d l->k2d (decV d) l.length (Vl.encs l++r)=some (l,r)
 | _,[],_,_=>rfl
 | d,v::l,r,h=>by
  simp only [Vl.fits] at h
  rw [Vl.encs,List.append_assoc,List.length_cons,k2d,j0u d v _ h.1]
  simp only
  rw [z54 d l r h.2]
end
theorem j0v {f:List (BitVec 8)->Option (Vl × List (BitVec 8))}{d:Nat}(hf:∀ b v r,f b=some (v,r)->b=v.enc++r/\v.fit d):∀ (n:Nat) (b:List (BitVec 8)) (l:List Vl) (r:List (BitVec 8)),k2d f n b=some (l,r)->b=Vl.encs l++r/\Vl.fits d l/\l.length=n
 | 0,b,l,r,h=>by
  simp only [k2d,Option.some.injEq,Prod.mk.injEq] at h
  obtain⟨rfl,rfl⟩:=h
  exact⟨rfl,trivial,rfl⟩
 | n+1,b,l,r,h=>by
  rw [k2d] at h
  cases e:f b with
  | none=>rw [e] at h; cases h
  | some q=>
   obtain⟨v,r1⟩:=q
   rw [e] at h
   simp only at h
   cases e2:k2d f n r1 with
   | none=>rw [e2] at h; cases h
   | some q2=>
    obtain⟨l2,r2⟩:=q2
    rw [e2] at h
    simp only [Option.some.injEq,Prod.mk.injEq] at h
    obtain⟨rfl,rfl⟩:=h
    obtain⟨k1,k2⟩:=hf _ _ _ e
    obtain⟨k3,k4,k5⟩:=j0v hf n _ _ _ e2
    exact⟨by rw [Vl.encs,List.append_assoc,<-k3,k1],⟨k2,k4⟩,by rw [List.length_cons,k5]⟩
theorem z3h:∀ (d:Nat) (b:List (BitVec 8)) (v:Vl) (r:List (BitVec 8)),decV d b=some (v,r)->b=v.enc++r/\v.fit d:=by
 intro d
 induction d with
 | zero=>
  intro b v r h
  cases b with
  | nil=>simp [decV] at h
  | cons k b=>
   rw [decV.eq_def] at h
   simp only at h
   split at h
   ·rename_i hk
    subst hk
    cases e:k05 0 b with
    | none=>rw [e] at h; cases h
    | some q=>
     obtain⟨u,r'⟩:=q
     rw [e] at h
     simp only [Option.some.injEq,Prod.mk.injEq] at h
     obtain⟨rfl,rfl⟩:=h
     obtain⟨k1, -,k3⟩:=q75 _ _ _ _ e
     have:=k3 (by omega)
     exact⟨by rw [Vl.enc,j45,k1]; rfl,by simp only [Vl.fit]; exact y0y (by omega)⟩
   ·split at h
    ·rename_i hk
     subst hk
     cases e:k05 0 b with
     | none=>rw [e] at h; cases h
     | some q=>
      obtain⟨n,r'⟩:=q
      rw [e] at h
      simp only at h
      split at h
      ·rename_i hn
       simp only [Option.some.injEq,Prod.mk.injEq] at h
       obtain⟨rfl,rfl⟩:=h
       obtain⟨k1, -,k3⟩:=q75 _ _ _ _ e
       have hl:(r'.take n).length=n:=by rw [List.length_take]; omega
       have:=k3 (by omega)
       exact⟨by rw [Vl.enc,hl,k1]; simp,by simp only [Vl.fit,hl]; omega⟩
      ·cases h
    ·split at h
     ·cases h
     ·cases h
 | succ d ih=>
  intro b v r h
  cases b with
  | nil=>simp [decV] at h
  | cons k b=>
   rw [decV.eq_def] at h
   simp only at h
   split at h
   ·rename_i hk
    subst hk
    cases e:k05 0 b with
    | none=>rw [e] at h; cases h
    | some q=>
     obtain⟨u,r'⟩:=q
     rw [e] at h
     simp only [Option.some.injEq,Prod.mk.injEq] at h
     obtain⟨rfl,rfl⟩:=h
     obtain⟨k1, -,k3⟩:=q75 _ _ _ _ e
     have:=k3 (by omega)
     exact⟨by rw [Vl.enc,j45,k1]; rfl,by simp only [Vl.fit]; exact y0y (by omega)⟩
   ·split at h
    ·rename_i hk
     subst hk
     cases e:k05 0 b with
     | none=>rw [e] at h; cases h
     | some q=>
      obtain⟨n,r'⟩:=q
      rw [e] at h
      simp only at h
      split at h
      ·rename_i hn
       simp only [Option.some.injEq,Prod.mk.injEq] at h
       obtain⟨rfl,rfl⟩:=h
       obtain⟨k1, -,k3⟩:=q75 _ _ _ _ e
       have hl:(r'.take n).length=n:=by rw [List.length_take]; omega
       have:=k3 (by omega)
       exact⟨by rw [Vl.enc,hl,k1]; simp,by simp only [Vl.fit,hl]; omega⟩
      ·cases h
    ·split at h
     ·rename_i hk
      subst hk
      cases e:k05 0 b with
      | none=>rw [e] at h; cases h
      | some q=>
       obtain⟨n,r'⟩:=q
       rw [e] at h
       simp only at h
       split at h
       ·rename_i hn
        cases e2:k2d (decV d) n r' with
        | none=>rw [e2] at h; cases h
        | some q2=>
         obtain⟨l,r2⟩:=q2
         rw [e2] at h
         simp only [Option.some.injEq,Prod.mk.injEq] at h
         obtain⟨rfl,rfl⟩:=h
         obtain⟨k1, -,k3⟩:=q75 _ _ _ _ e
         obtain⟨m1,m2,m3⟩:=j0v (fun b v r h=>ih b v r h) _ _ _ _ e2
         have:=k3 (by omega)
         exact⟨by rw [Vl.enc,m3,k1,m1]; simp,by simp only [Vl.fit]; exact⟨by omega,m2⟩⟩
       ·cases h
     ·cases h
theorem j2d {v:Vl}(h:v.fit 16):decode v.enc=some v:=by
 have:=j0u 16 v [] h
 rw [List.append_nil] at this
 unfold decode
 rw [this]
theorem j2e {b:List (BitVec 8)}{v:Vl}(h:decode b=some v):b=v.enc/\v.fit 16:=by
 unfold decode at h
 cases e:decV 16 b with
 | none=>rw [e] at h; cases h
 | some q=>
  obtain⟨w,r⟩:=q
  rw [e] at h
  cases r with
  | nil=>
   simp only [Option.some.injEq] at h
   subst h
   have:=z3h _ _ _ _ e
   rwa [List.append_nil] at this
  | cons=>cases h
end Go.Pv.Cd
namespace Go.Pv
open Go.Lib
theorem z1p (a b:UInt8):a<b\/a=b\/b<a:=by
 rcases Nat.lt_trichotomy a.toNat b.toNat with h | h | h
 ·exact .inl h
 ·exact .inr (.inl (UInt8.toNat_inj.1 h))
 ·exact .inr (.inr h)
theorem q98 (a b:UInt8)(x y:List UInt8):compareBytes (a::x) (b::y)=if a<b then -1 else if b<a then 1 else compareBytes x y:=rfl
theorem z1q:∀ x:List UInt8,compareBytes x x=0
 | []=>rfl
 | a::x=>by rw [q98,if_neg (UInt8.lt_irrefl a),if_neg (UInt8.lt_irrefl a),z1q x]
theorem z1r:∀ x y:List UInt8,compareBytes y x=-compareBytes x y
 | [],[]=>rfl
 | [],_::_=>rfl
 | _::_,[]=>rfl
 | a::x,b::y=>by
  rw [q98,q98]
  rcases z1p a b with h | h | h
  ·have:¬ b<a:=fun h2=>UInt8.lt_irrefl a (UInt8.lt_trans h h2)
   rw [if_pos h,if_neg this,if_pos h]
   rfl
  ·subst h
   rw [if_neg (UInt8.lt_irrefl a),if_neg (UInt8.lt_irrefl a),if_neg (UInt8.lt_irrefl a),if_neg (UInt8.lt_irrefl a),z1r x y]
  ·have:¬ a<b:=fun h2=>UInt8.lt_irrefl a (UInt8.lt_trans h2 h)
   rw [if_pos h,if_neg this,if_pos h]
theorem j0w:∀ {x y:List UInt8},compareBytes x y=0->x=y
 | [],[],_=>rfl
 | [],_::_,h=>by cases h
 | _::_,[],h=>by cases h
 | a::x,b::y,h=>by
  rw [q98] at h
  split at h
  ·cases h
  ·split at h
   ·cases h
   ·rename_i h1 h2
    rcases z1p a b with h3 | h3 | h3
    ·exact absurd h3 h1
    ·rw [h3,j0w h]
    ·exact absurd h3 h2
theorem k9d:∀ {x y z:List UInt8},compareBytes x y<0->compareBytes y z<0->compareBytes x z<0
 | [],[],_,h,_=>absurd h (by decide)
 | [],_::_,[],_,h=>absurd h (show ¬ (1:Int)<0 by decide)
 | [],_::_,_::_,_,_=>show (-1:Int)<0 by decide
 | _::_,[],_,h,_=>absurd h (show ¬ (1:Int)<0 by decide)
 | _::_,_::_,[],_,h=>absurd h (show ¬ (1:Int)<0 by decide)
 | a::x,b::y,c::z,h,k=>by
  rw [q98] at h k ⊢
  rcases z1p a b with h1 | h1 | h1
  ·rcases z1p b c with h2 | h2 | h2
   ·rw [if_pos (UInt8.lt_trans h1 h2)]; decide
   ·subst h2; rw [if_pos h1]; decide
   ·have:¬ b<c:=fun h3=>UInt8.lt_irrefl b (UInt8.lt_trans h3 h2)
    rw [if_neg this,if_pos h2] at k
    exact absurd k (by decide)
  ·subst h1
   rcases z1p a c with h2 | h2 | h2
   ·rw [if_pos h2]; decide
   ·subst h2
    rw [if_neg (UInt8.lt_irrefl a),if_neg (UInt8.lt_irrefl a)] at h k ⊢
    exact k9d h k
   ·have:¬ a<c:=fun h3=>UInt8.lt_irrefl a (UInt8.lt_trans h3 h2)
    rw [if_neg this,if_pos h2] at k
    exact absurd k (by decide)
  ·have:¬ a<b:=fun h3=>UInt8.lt_irrefl a (UInt8.lt_trans h3 h1)
   rw [if_neg this,if_pos h1] at h
   exact absurd h (by decide)
theorem z1s:∀ x y:List UInt8,Op.bytesLess x y=decide (compareBytes x y<0)
 | [],[]=>rfl
 | [],_::_=>rfl
 | _::_,[]=>rfl
 | a::x,b::y=>by
  rw [q98]
  show (decide (a<b) || (a == b && Op.bytesLess x y))=_
  rw [z1s x y]
  rcases z1p a b with h | h | h
  ·rw [if_pos h,decide_eq_true h]; rfl
  ·subst h
   rw [if_neg (UInt8.lt_irrefl a),if_neg (UInt8.lt_irrefl a),decide_eq_false (UInt8.lt_irrefl a)]
   simp
  ·have h2:¬ a<b:=fun h2=>UInt8.lt_irrefl a (UInt8.lt_trans h2 h)
   have h3:(a == b)=false:=by
    rw [beq_eq_false_iff_ne]
    exact fun e=>UInt8.lt_irrefl a (by rw [e] at h; exact absurd h (UInt8.lt_irrefl b))
   rw [if_neg h2,if_pos h,decide_eq_false h2,h3]
   rfl
structure Cmp {α:Type}(c:α->α->Int)(ok:α->Prop):Prop where
 self:∀ a,c a a=0
 eq:∀ a b,ok a->ok b->c a b=0->a=b
 swap:∀ a b,c b a=-c a b
 trans:∀ a b d,c a b<0->c b d<0->c a d<0
def Rise {α:Type}(c:α->α->Int)(ok:α->Prop)(l:List α):Prop:=(∀ x ∈ l,ok x)/\l.Pairwise fun x y=>c x y<0
def k9e {α:Type}(c:α->α->Int)(l:List α)(x:α):Nat:=(l.takeWhile fun y=>decide (c y x<0)).length
def k78 {α:Type}(c:α->α->Int)[DecidableEq α](l:List α)(x:α):List α:=if x ∈ l then l else l.take (k9e c l x)++x::l.drop (k9e c l x)
section
variable {α:Type} {c:α->α->Int} {ok:α->Prop}
theorem j47 (l:List α)(x:α):k9e c l x<=l.length:=by
 unfold k9e
 induction l with
 | nil=>exact Nat.le_refl _
 | cons y l ih=>
  rw [List.takeWhile_cons]
  split
  ·simp only [List.length_cons]; omega
  ·exact Nat.zero_le _
theorem Rise.nil:Rise c ok []:=⟨fun _ h=>absurd h List.not_mem_nil,.nil⟩
theorem Rise.tail {x:α}{l:List α}(h:Rise c ok (x::l)):Rise c ok l:=⟨fun y hy=>h.1 y (List.mem_cons_of_mem _ hy),(List.pairwise_cons.1 h.2).2⟩
variable (C:Cmp c ok)
include C
theorem k5s:∀ {l:List α},Rise c ok l->∀ (x:α),(∀ y ∈ l.take (k9e c l x),c y x<0)/\∀ y ∈ l.drop (k9e c l x),¬ c y x<0
 | [],_,x=>⟨fun y h=>absurd h (by simp),fun y h=>absurd h (by simp)⟩
 | z::l,h,x=>by
  have ih:=k5s (Rise.tail h) x
  unfold k9e at ih ⊢
  rw [List.takeWhile_cons]
  by_cases hz:c z x<0
  ·rw [decide_eq_true hz]
   simp only [if_true,List.length_cons,List.take_succ_cons,List.drop_succ_cons]
   refine⟨fun y hy=>?_,ih.2⟩
   rcases List.mem_cons.1 hy with rfl | hy
   ·exact hz
   ·exact ih.1 y hy
  ·rw [decide_eq_false hz]
   simp only [Bool.false_eq_true,if_false,List.length_nil,List.take_zero,List.drop_zero]
   refine⟨fun y hy=>absurd hy List.not_mem_nil,fun y hy h2=>?_⟩
   rcases List.mem_cons.1 hy with rfl | hy
   ·exact hz h2
   ·exact hz (C.trans _ _ _ ((List.pairwise_cons.1 h.2).1 y hy) h2)
theorem Cmp.gt {a b:α}(ha:ok a)(hb:ok b)(h:¬ c a b<0)(hne:a ≠ b):c b a<0:=by
 rw [C.swap]
 have:c a b ≠ 0:=fun e=>hne (C.eq _ _ ha hb e)
 omega
omit C in
theorem j0x [DecidableEq α]{l:List α}{x y:α}:y ∈ k78 c l x ↔ y ∈ l\/y=x:=by
 unfold k78
 split
 ·rename_i h
  exact⟨.inl,fun h2=>h2.elim id fun e=>e ▸ h⟩
 ·have e:l.take (k9e c l x)++l.drop (k9e c l x)=l:=List.take_append_drop ..
  constructor
  ·intro h
   rcases List.mem_append.1 h with h | h
   ·exact .inl (List.mem_of_mem_take h)
   ·rcases List.mem_cons.1 h with h | h
    ·exact .inr h
    ·exact .inl (List.mem_of_mem_drop h)
  ·rintro (h | rfl)
   ·rw [<-e] at h
    rcases List.mem_append.1 h with h | h
    ·exact List.mem_append_left _ h
    ·exact List.mem_append_right _ (List.mem_cons_of_mem _ h)
   ·exact List.mem_append_right _ (List.mem_cons_self ..)
theorem j48 [DecidableEq α]{l:List α}(h:Rise c ok l){x:α}(hx:ok x):Rise c ok (k78 c l x):=by
 refine⟨fun y hy=>(j0x.1 hy).elim (h.1 y) fun e=>e ▸ hx, ?_⟩
 unfold k78
 split
 ·exact h.2
 ·rename_i hn
  have s:=k5s C h x
  have e:l.take (k9e c l x)++l.drop (k9e c l x)=l:=List.take_append_drop ..
  have hp:=h.2
  rw [<-e,List.pairwise_append] at hp
  rw [List.pairwise_append,List.pairwise_cons]
  refine⟨hp.1,⟨fun y hy=>?_,hp.2.1⟩,fun a ha b hb=>?_⟩
  ·have hyl:y ∈ l:=List.mem_of_mem_drop hy
   exact C.gt (h.1 y hyl) hx (s.2 y hy) fun e=>hn (e ▸ hyl)
  ·rcases List.mem_cons.1 hb with rfl | hb
   ·exact s.1 a ha
   ·exact hp.2.2 a ha b hb
theorem j49 {l:List α}(h:Rise c ok l){x:α}:x ∈ l ↔ l[k9e c l x]?=some x:=by
 constructor
 ·intro hm
  have s:=k5s C h x
  have e:l.take (k9e c l x)++l.drop (k9e c l x)=l:=List.take_append_drop ..
  rw [<-e] at hm
  rcases List.mem_append.1 hm with h2 | h2
  ·have:=s.1 x h2
   rw [C.self] at this
   omega
  ·cases hd:l.drop (k9e c l x) with
   | nil=>rw [hd] at h2; cases h2
   | cons z r=>
    have e2:l[k9e c l x]?=some z:=by
     have:=congrArg (fun q=>q[0]?) hd
     simpa [List.getElem?_drop] using this
    rw [e2]
    congr 1
    rw [hd] at h2 s
    rcases List.mem_cons.1 h2 with h3 | h3
    ·exact h3.symm
    ·exfalso
     have hp:=h.2
     rw [<-e,hd] at hp
     have:=(List.pairwise_cons.1 (List.pairwise_append.1 hp).2.1).1 x h3
     exact s.2 z (List.mem_cons_self ..) this
 ·intro h2
  exact List.mem_of_getElem? h2
theorem Rise.ext:∀ {l m:List α},Rise c ok l->Rise c ok m->(∀ x,x ∈ l ↔ x ∈ m)->l=m
 | [],[],_,_,_=>rfl
 | [],y::m,_,_,h=>absurd ((h y).2 (List.mem_cons_self ..)) List.not_mem_nil
 | x::l,[],_,_,h=>absurd ((h x).1 (List.mem_cons_self ..)) List.not_mem_nil
 | x::l,y::m,hl,hm,h=>by
  have pl:=List.pairwise_cons.1 hl.2
  have pm:=List.pairwise_cons.1 hm.2
  have irr:∀ z,¬ c z z<0:=fun z=>by rw [C.self]; omega
  have e:x=y:=by
   rcases List.mem_cons.1 ((h x).1 (List.mem_cons_self ..)) with e | h1
   ·exact e
   ·rcases List.mem_cons.1 ((h y).2 (List.mem_cons_self ..)) with e | h2
    ·exact e.symm
    ·exact absurd (C.trans _ _ _ (pl.1 y h2) (pm.1 x h1)) (irr x)
  subst e
  congr 1
  refine Rise.ext hl.tail hm.tail fun z=>⟨fun hz=>?_,fun hz=>?_⟩
  ·rcases List.mem_cons.1 ((h z).1 (List.mem_cons_of_mem _ hz)) with rfl | h1
   ·exact absurd (pl.1 z hz) (irr z)
   ·exact h1
  ·rcases List.mem_cons.1 ((h z).2 (List.mem_cons_of_mem _ hz)) with rfl | h1
   ·exact absurd (pm.1 z hz) (irr z)
   ·exact h1
end
section
variable {α:Type}
variable (key:α->Int)
def IsFst (l:List α)(x:α):Prop:=l.find? (fun y=>decide (key y=key x))=some x
def Up (l:List α):Prop:=l.Pairwise fun x y=>key x<key y
def cmpF:α->List α->List α
 | _,[]=>[]
 | p,x::l=>if key x=key p then cmpF x l else x::cmpF x l
def k4s:List α->List α
 | []=>[]
 | x::l=>x::cmpF key x l
variable {key}
theorem IsFst.mem {l:List α}{x:α}(h:IsFst key l x):x ∈ l:=List.mem_of_find?_eq_some h
theorem IsFst.stb {l m:List α}(h:Stb key l m)(x:α):IsFst key l x ↔ IsFst key m x:=by
 unfold IsFst
 rw [<-List.head?_filter,<-List.head?_filter,h (key x)]
theorem z1t:∀ (l:List α) (p:α),Srtd key (p::l)->(∀ x,x ∈ cmpF key p l ↔ key p<key x/\IsFst key l x)/\Up key (cmpF key p l)
 | [],p,_=>⟨fun x=>by simp [cmpF,IsFst],.nil⟩
 | y::l,p,h=>by
  have h1:=List.pairwise_cons.1 h
  have h2:=List.pairwise_cons.1 h1.2
  obtain⟨i1,i2⟩:=z1t l y h1.2
  have hy:=h1.1 y (List.mem_cons_self ..)
  have f:∀ x,key y ≠ key x->(IsFst key (y::l) x ↔ IsFst key l x):=fun x hne=>by
   unfold IsFst
   rw [List.find?_cons,decide_eq_false hne]
  rw [cmpF]
  split
  ·rename_i e
   refine⟨fun x=>?_,i2⟩
   rw [i1,e]
   constructor
   ·rintro⟨a,b⟩
    exact⟨a,(f x (by omega)).2 b⟩
   ·rintro⟨a,b⟩
    exact⟨a,(f x (by omega)).1 b⟩
  ·rename_i e
   refine⟨fun x=>?_,List.pairwise_cons.2 ⟨fun z hz=>((i1 z).1 hz).1,i2⟩⟩
   rw [List.mem_cons,i1]
   constructor
   ·rintro (rfl |⟨a,b⟩)
    ·refine⟨by omega, ?_⟩
     unfold IsFst
     rw [List.find?_cons,decide_eq_true rfl]
    ·exact⟨by omega,(f x (by omega)).2 b⟩
   ·rintro⟨a,b⟩
    by_cases hk:key y=key x
    ·left
     unfold IsFst at b
     rw [List.find?_cons,decide_eq_true hk] at b
     exact (Option.some.inj b).symm
    ·right
     have b':=(f x hk).1 b
     have:=h2.1 x b'.mem
     exact⟨by omega,b'⟩
theorem k9f {l:List α}(h:Srtd key l):(∀ x,x ∈ k4s key l ↔ IsFst key l x)/\Up key (k4s key l):=by
 cases l with
 | nil=>exact⟨fun x=>by simp [k4s,IsFst],.nil⟩
 | cons p l=>
  obtain⟨i1,i2⟩:=z1t l p h
  have h1:=List.pairwise_cons.1 h
  refine⟨fun x=>?_,List.pairwise_cons.2 ⟨fun z hz=>((i1 z).1 hz).1,i2⟩⟩
  rw [k4s,List.mem_cons,i1]
  constructor
  ·rintro (rfl |⟨a,b⟩)
   ·unfold IsFst
    rw [List.find?_cons,decide_eq_true rfl]
   ·unfold IsFst
    rw [List.find?_cons,decide_eq_false (by omega)]
    exact b
  ·intro b
   by_cases hk:key p=key x
   ·left
    unfold IsFst at b
    rw [List.find?_cons,decide_eq_true hk] at b
    exact (Option.some.inj b).symm
   ·right
    unfold IsFst at b
    rw [List.find?_cons,decide_eq_false hk] at b
    have:=h1.1 x (List.mem_of_find?_eq_some b)
    exact⟨by omega,b⟩
end
def k4t {α:Type}(e:α->α->Bool):α->List α->List α
 | _,[]=>[]
 | p,x::l=>if e x p then k4t e x l else x::k4t e x l
def q9m {α:Type}(e:α->α->Bool):List α->List α
 | []=>[]
 | x::l=>x::k4t e x l
theorem j5a {α:Type}(key:α->Int):∀ (l:List α) (p:α),cmpF key p l=k4t (fun x y=>decide (key x=key y)) p l
 | [],_=>rfl
 | x::l,p=>by
  rw [cmpF,k4t,j5a key l x]
  simp only [decide_eq_true_eq]
theorem j0y {α:Type}(key:α->Int)(l:List α):k4s key l=q9m (fun x y=>decide (key x=key y)) l:=by
 cases l with
 | nil=>rfl
 | cons x l=>rw [k4s,q9m,j5a]
theorem z1u {α:Type}(e:α->α->Bool):∀ (l:List α) (p x:α),k4t e p (l++[x])=k4t e p l++if e x (l.getLastD p) then [] else [x]
 | [],p,x=>rfl
 | y::l,p,x=>by
  rw [List.cons_append,k4t,k4t,z1u e l y x,List.getLastD_cons]
  split <;> simp
theorem z3i {α:Type}(l:List α)(a:α)(j:Nat)(h:j<=l.length):(l.take j).getLastD a=(a::l)[j]'(by simp; omega):=by
 cases j with
 | zero=>simp
 | succ j=>
  rw [List.take_succ_eq_append_getElem (by omega),List.getLastD_concat]
  simp
theorem k26 {α:Type}(e:α->α->Bool)(l:List α)(j:Nat)(h:j+1<l.length):q9m e (l.take (j+2))=q9m e (l.take (j+1))++if e l[j+1] l[j] then [] else [l[j+1]]:=by
 cases l with
 | nil=>simp at h
 | cons a t=>
  simp only [List.length_cons] at h
  rw [List.take_succ_cons,List.take_succ_cons,q9m,q9m,List.take_succ_eq_append_getElem (by omega),z1u,z3i t a j (by omega),List.cons_append]
  simp
theorem z3j {α:Type}(e:α->α->Bool)(l:List α):q9m e (l.take 1)=l.take 1:=by
 cases l with
 | nil=>rfl
 | cons a t=>rfl
theorem z56 {α:Type}(e:α->α->Bool):∀ (l:List α) (p:α),(k4t e p l).length<=l.length
 | [],_=>Nat.le_refl _
 | x::l,p=>by
  rw [k4t]
  have:=z56 e l x
  split
  ·rw [List.length_cons]; omega
  ·rw [List.length_cons,List.length_cons]; omega
theorem z3k {α:Type}(e:α->α->Bool)(l:List α):(q9m e l).length<=l.length:=by
 cases l with
 | nil=>exact Nat.le_refl _
 | cons x l=>rw [q9m,List.length_cons,List.length_cons]; have:=z56 e l x; omega
structure Cmp2 {α:Type}(e:α->α->Bool)(l:List α)(j w:Nat)(m:List α):Prop where
 len:m.length=l.length
 lt:w<j
 done:m.take w=q9m e (l.take j)
 rest:∀ t (h:t<l.length),j<=t+1->m[t]?=some l[t]
theorem Cmp2.same {α:Type}{e:α->α->Bool}{l m:List α}{j w:Nat}(h:Cmp2 e l (j+1) w m)(hj:j+1<l.length)(he:e l[j+1] l[j]=true):Cmp2 e l (j+2) w m:=
 ⟨h.len,Nat.lt_succ_of_lt h.lt,by rw [k26 e l j hj,if_pos he,List.append_nil]; exact h.done,fun t ht h2=>h.rest t ht (by omega)⟩
theorem Cmp2.keep {α:Type}{e:α->α->Bool}{l m:List α}{j w:Nat}(h:Cmp2 e l (j+1) w m)(hj:j+1<l.length)(he:e l[j+1] l[j]=false):Cmp2 e l (j+2) (w+1) (m.set w l[j+1]):=by
 have hl:=h.len
 have hw:=h.lt
 refine⟨by rw [List.length_set]; exact hl,by omega, ?_,fun t ht h2=>?_⟩
 ·rw [k26 e l j hj,if_neg (by rw [he]; decide),List.take_succ_eq_append_getElem (by rw [List.length_set]; omega),List.getElem_set_self,List.take_set,List.set_eq_of_length_le (by rw [List.length_take]; omega),h.done]
 ·rw [List.getElem?_set_ne (by omega)]
  exact h.rest t ht (by omega)
theorem Cmp2.start {α:Type}{e:α->α->Bool}{l:List α}{i:Nat}(h:q9m e (l.take i)=l.take i)(hi:i+1<=l.length)(h1:1<=i)(he:q9m e (l.take (i+1))=l.take i):Cmp2 e l (i+1) i l:=
 ⟨rfl,Nat.lt_succ_self i,he.symm,fun t ht _=>List.getElem?_eq_getElem ht⟩
section
variable {α:Type} [DecidableEq α] {c:α->α->Int} {ok:α->Prop}
abbrev eqD (x y:α):Bool:=decide (x=y)
theorem z1v (C:Cmp c ok):∀ (l:List α) (p:α),(∀ x ∈ p::l,ok x)->(p::l).Pairwise (fun x y=>¬ c y x<0)->(∀ x ∈ k4t eqD p l,c p x<0)/\Rise c ok (k4t eqD p l)/\∀ x,x ∈ p::k4t eqD p l ↔ x ∈ p::l
 | [],p,_,_=>⟨fun x h=>absurd h List.not_mem_nil,.nil,fun x=>Iff.rfl⟩
 | y::l,p,ho,h=>by
  have hp:=List.pairwise_cons.1 h
  obtain⟨i1,i2,i3⟩:=z1v C l y (fun x hx=>ho x (List.mem_cons_of_mem _ hx)) hp.2
  rw [k4t]
  by_cases e:y=p
  ·subst e
   rw [if_pos (decide_eq_true rfl)]
   refine⟨i1,i2,fun x=>?_⟩
   rw [i3 x]
   simp
  ·rw [if_neg (by simpa using e)]
   have hy:c p y<0:=C.gt (ho y (by simp)) (ho p (by simp)) (hp.1 y (by simp)) e
   refine⟨fun x hx=>?_,⟨fun x hx=>ho x (List.mem_cons_of_mem _ ((i3 x).1 hx)),List.pairwise_cons.2 ⟨i1,i2.2⟩⟩,fun x=>?_⟩
   ·rcases List.mem_cons.1 hx with rfl | hx
    ·exact hy
    ·exact C.trans _ _ _ hy (i1 x hx)
   ·rw [List.mem_cons,i3 x,List.mem_cons (b:=p) (l:=y::l)]
theorem j5b (C:Cmp c ok){l:List α}(ho:∀ x ∈ l,ok x)(h:l.Pairwise fun x y=>¬ c y x<0):Rise c ok (q9m eqD l)/\∀ x,x ∈ q9m eqD l ↔ x ∈ l:=by
 cases l with
 | nil=>exact⟨.nil,fun x=>Iff.rfl⟩
 | cons p l=>
  obtain⟨i1,i2,i3⟩:=z1v C l p ho h
  exact⟨⟨fun x hx=>ho x ((i3 x).1 hx),List.pairwise_cons.2 ⟨i1,i2.2⟩⟩,i3⟩
end
structure PR (N:Type) where
 peers:List (List N)
 q:List (Nat × Nat × N)
 ap:List (Int × Int)
structure Mv (N:Type) where
 kind:Int
 peer:Int
 to:Int
 at':Int
 note:N
def v1x (ap:List (Int × Int))(a b:Nat):Bool:=ap.any fun x=>decide (x.1=min (a:Int) b) && decide (x.2=max (a:Int) b)
section
variable {N:Type} [DecidableEq N] (c:N->N->Int) (okb:N->Bool)
def PR.know (r:PR N)(i:Nat):List N:=r.peers.getD i []
def PR.learn (r:PR N)(i:Nat)(n:N):PR N:={ r with peers:=r.peers.set i (k78 c (r.know i) n) }
def PR.send (r:PR N)(l:List (Nat × Nat × N)):PR N:={ r with q:=r.q++l }
def PR.toAll (r:PR N)(j:Nat)(n:N):List (Nat × Nat × N):=((List.range r.peers.length).filter fun i=>decide (i ≠ j)).map fun i=>(j,i,n)
def PR.all (r:PR N)(a b:Nat):List (Nat × Nat × N):=(r.know a).map fun n=>(a,b,n)
def PR.drop (r:PR N)(k:Nat):PR N:={ r with q:=r.q.eraseIdx k }
def PR.deliver (r:PR N)(k:Nat):PR N:=match r.q[k]? with
 | none=>r
 | some (a,b,n)=>if v1x r.ap a b then r.drop k else (r.drop k).learn c b n
def PR.rep (r:PR N)(k:Nat):PR N:=match r.q[k]? with
 | none=>r
 | some p=>{ r with q:=r.q++[p] }
def PR.act (r:PR N)(m:Mv N):Sum (PR N) Int:=
 if m.kind=1 then
  if 0<=m.peer/\m.peer<r.peers.length then
   if okb m.note then .inl ((r.learn c m.peer.toNat m.note).send (r.toAll m.peer.toNat m.note)) else .inr 580
  else .inr 1
 else if m.kind=2 then
  if (0<=m.peer/\m.peer<r.peers.length)/\(0<=m.to/\m.to<r.peers.length)/\m.peer ≠ m.to then .inl (r.send (r.all m.peer.toNat m.to.toNat)) else .inr 1
 else if m.kind=3 then
  if 0<=m.at'/\m.at'<r.q.length then .inl (r.deliver c m.at'.toNat) else .inr 1
 else if m.kind=4 then
  if 0<=m.at'/\m.at'<r.q.length then .inl (r.drop m.at'.toNat) else .inr 1
 else if m.kind=5 then
  if 0<=m.at'/\m.at'<r.q.length then .inl (r.rep m.at'.toNat) else .inr 1
 else .inr 1
structure PR.In (r:PR N)(n:Nat)(T:List N):Prop where
 len:r.peers.length=n
 rise:∀ l ∈ r.peers,Rise c (fun x=>okb x=true) l
 sub:∀ l ∈ r.peers,∀ y ∈ l,y ∈ T
 q:∀ p ∈ r.q,p.1<n/\p.2.1<n/\p.1 ≠ p.2.1/\okb p.2.2=true/\p.2.2 ∈ T
 ap:r.ap=[]
variable {c okb}
omit [DecidableEq N] in
theorem k79 {r:PR N}{i:Nat}(h:i<r.peers.length):r.know i ∈ r.peers:=by
 unfold PR.know
 rw [List.getD_eq_getElem?_getD,List.getElem?_eq_getElem h]
 exact List.getElem_mem h
omit [DecidableEq N] in
theorem z57 {r:PR N}{i:Nat}(h:¬ i<r.peers.length):r.know i=[]:=by
 unfold PR.know
 rw [List.getD_eq_getElem?_getD,List.getElem?_eq_none (by omega)]
 rfl
omit [DecidableEq N] in
theorem PR.In.mono {r:PR N}{n:Nat}{T T':List N}(h:r.In c okb n T)(hT:∀ y ∈ T,y ∈ T'):r.In c okb n T':=
 ⟨h.len,h.rise,fun l hl y hy=>hT y (h.sub l hl y hy),fun p hp=>⟨(h.q p hp).1,(h.q p hp).2.1,(h.q p hp).2.2.1,(h.q p hp).2.2.2.1,hT _ (h.q p hp).2.2.2.2⟩,h.ap⟩
omit [DecidableEq N] in
theorem PR.In.know_rise {r:PR N}{n:Nat}{T:List N}(h:r.In c okb n T)(i:Nat):Rise c (fun x=>okb x=true) (r.know i):=by
 by_cases hi:i<r.peers.length
 ·exact h.rise _ (k79 hi)
 ·rw [z57 hi]; exact .nil
omit [DecidableEq N] in
theorem PR.In.know_sub {r:PR N}{n:Nat}{T:List N}(h:r.In c okb n T)(i:Nat):∀ y ∈ r.know i,y ∈ T:=by
 by_cases hi:i<r.peers.length
 ·exact h.sub _ (k79 hi)
 ·rw [z57 hi]; exact fun y hy=>absurd hy List.not_mem_nil
variable (C:Cmp c fun x=>okb x=true)
include C
theorem PR.In.learn {r:PR N}{n:Nat}{T:List N}(h:r.In c okb n T){i:Nat}{x:N}(hx:okb x=true)(hT:x ∈ T):(r.learn c i x).In c okb n T:=by
 have hm:∀ l ∈ (r.learn c i x).peers,l ∈ r.peers\/l=k78 c (r.know i) x:=fun l hl=>by
  rcases List.mem_or_eq_of_mem_set hl with h | h
  ·exact .inl h
  ·exact .inr h
 refine⟨by unfold PR.learn; rw [List.length_set,h.len],fun l hl=>?_,fun l hl y hy=>?_,h.q,h.ap⟩
 ·rcases hm l hl with h1 | rfl
  ·exact h.rise l h1
  ·exact j48 C (h.know_rise i) hx
 ·rcases hm l hl with h1 | rfl
  ·exact h.sub l h1 y hy
  ·rcases j0x.1 hy with h2 | rfl
   ·exact h.know_sub i y h2
   ·exact hT
omit C [DecidableEq N] in
theorem PR.In.send {r:PR N}{n:Nat}{T:List N}(h:r.In c okb n T){l:List (Nat × Nat × N)}(hl:∀ p ∈ l,p.1<n/\p.2.1<n/\p.1 ≠ p.2.1/\okb p.2.2=true/\p.2.2 ∈ T):(r.send l).In c okb n T:=
 ⟨h.len,h.rise,h.sub,fun p hp=>(List.mem_append.1 hp).elim (h.q p) (hl p),h.ap⟩
omit C [DecidableEq N] in
theorem PR.In.drop {r:PR N}{n:Nat}{T:List N}(h:r.In c okb n T)(k:Nat):(r.drop k).In c okb n T:=
 ⟨h.len,h.rise,h.sub,fun p hp=>h.q p ((List.eraseIdx_sublist ..).subset hp),h.ap⟩
omit C [DecidableEq N] in
theorem PR.In.rep {r:PR N}{n:Nat}{T:List N}(h:r.In c okb n T)(k:Nat):(r.rep k).In c okb n T:=by
 unfold PR.rep
 split
 ·exact h
 ·rename_i p e
  exact⟨h.len,h.rise,h.sub,fun x hx=>by
   rcases List.mem_append.1 hx with h1 | h1
   ·exact h.q x h1
   ·rw [List.mem_singleton.1 h1]
    exact h.q p (List.mem_of_getElem? e),h.ap⟩
theorem PR.In.deliver {r:PR N}{n:Nat}{T:List N}(h:r.In c okb n T)(k:Nat):(r.deliver c k).In c okb n T:=by
 unfold PR.deliver
 split
 ·exact h
 ·rename_i a b x e
  have hq:=h.q _ (List.mem_of_getElem? e)
  split
  ·exact h.drop k
  ·exact (h.drop k).learn C hq.2.2.2.1 hq.2.2.2.2
omit C [DecidableEq N] in
theorem PR.In.toAll {r:PR N}{n:Nat}{T:List N}(h:r.In c okb n T){j:Nat}(hj:j<n){x:N}(hx:okb x=true)(hT:x ∈ T):∀ p ∈ r.toAll j x,p.1<n/\p.2.1<n/\p.1 ≠ p.2.1/\okb p.2.2=true/\p.2.2 ∈ T:=fun p hp=>by
 unfold PR.toAll at hp
 obtain⟨i,hi,rfl⟩:=List.mem_map.1 hp
 rw [List.mem_filter,List.mem_range,decide_eq_true_eq,h.len] at hi
 exact⟨hj,hi.1,Ne.symm hi.2,hx,hT⟩
omit C [DecidableEq N] in
theorem PR.In.alls {r:PR N}{n:Nat}{T:List N}(h:r.In c okb n T){a b:Nat}(ha:a<n)(hb:b<n)(hab:a ≠ b):∀ p ∈ r.all a b,p.1<n/\p.2.1<n/\p.1 ≠ p.2.1/\okb p.2.2=true/\p.2.2 ∈ T:=fun p hp=>by
 unfold PR.all at hp
 obtain⟨x,hx,rfl⟩:=List.mem_map.1 hp
 exact⟨ha,hb,hab,(h.know_rise a).1 x hx,h.know_sub a x hx⟩
theorem PR.In.act {r x:PR N}{n:Nat}{T:List N}(h:r.In c okb n T){m:Mv N}(e:r.act c okb m=.inl x):x.In c okb n (if m.kind=1 then m.note::T else T)/\(m.kind=1->okb m.note=true):=by
 unfold PR.act at e
 have hn:=h.len
 split at e
 ·rename_i hk
  rw [if_pos hk]
  split at e
  ·rename_i hp
   split at e
   ·rename_i ho
    simp only [Sum.inl.injEq] at e
    subst e
    have h2:=h.mono (T':=m.note::T) fun y hy=>List.mem_cons_of_mem _ hy
    exact⟨(h2.learn C ho (List.mem_cons_self ..)).send (h2.toAll (by omega) ho (List.mem_cons_self ..)),fun _=>ho⟩
   ·cases e
  ·cases e
 ·rename_i hk
  rw [if_neg hk]
  refine⟨?_,fun h=>absurd h hk⟩
  split at e
  ·split at e
   ·rename_i hp
    simp only [Sum.inl.injEq] at e
    subst e
    exact h.send (h.alls (by omega) (by omega) (by omega))
   ·cases e
  ·split at e
   ·split at e
    ·simp only [Sum.inl.injEq] at e
     subst e
     exact h.deliver C _
    ·cases e
   ·split at e
    ·split at e
     ·simp only [Sum.inl.injEq] at e
      subst e
      exact h.drop _
     ·cases e
    ·split at e
     ·split at e
      ·simp only [Sum.inl.injEq] at e
       subst e
       exact h.rep _
      ·cases e
     ·cases e
omit C [DecidableEq N] in
theorem k1m {α:Type}:∀ {l m:List α},l.Nodup->(∀ x ∈ l,x ∈ m)->l.length<=m.length
 | [],_,_,_=>Nat.zero_le _
 | a::l,m,hn,hs=>by
  have ha:=hs a (List.mem_cons_self ..)
  obtain⟨s,t,rfl⟩:=List.append_of_mem ha
  have h1:=List.nodup_cons.1 hn
  have:=k1m (l:=l) (m:=s++t) h1.2 fun x hx=>by
   have h2:=hs x (List.mem_cons_of_mem _ hx)
   rcases List.mem_append.1 h2 with h3 | h3
   ·exact List.mem_append_left _ h3
   ·rcases List.mem_cons.1 h3 with rfl | h3
    ·exact absurd hx h1.1
    ·exact List.mem_append_right _ h3
  simp only [List.length_append,List.length_cons] at this ⊢
  omega
omit [DecidableEq N] in
theorem Rise.nodup {l:List N}(h:Rise c (fun x=>okb x=true) l):l.Nodup:=
 h.2.imp fun hab e=>by subst e; rw [C.self] at hab; omega
omit [DecidableEq N] in
theorem PR.In.know_len {r:PR N}{n:Nat}{T:List N}(h:r.In c okb n T)(i:Nat):(r.know i).length<=T.length:=k1m (Rise.nodup C (h.know_rise i)) (h.know_sub i)
omit C [DecidableEq N] in
theorem j5c (r:PR N)(j:Nat)(n:N):(r.toAll j n).length<=r.peers.length:=by
 unfold PR.toAll
 rw [List.length_map]
 exact Nat.le_trans (List.length_filter_le ..) (by rw [List.length_range]; exact Nat.le_refl _)
theorem PR.In.act_len {r x:PR N}{n k:Nat}{T:List N}(h:r.In c okb n T){m:Mv N}(e:r.act c okb m=.inl x)(hn:n<=k)(hT:T.length<=k)(hk:1<=k):x.q.length<=r.q.length+k:=by
 have hl:=h.len
 unfold PR.act at e
 split at e
 ·split at e
  ·split at e
   ·simp only [Sum.inl.injEq] at e
    subst e
    have:=j5c r m.peer.toNat m.note
    show (r.q++r.toAll m.peer.toNat m.note).length<=_
    rw [List.length_append]
    omega
   ·cases e
  ·cases e
 ·split at e
  ·split at e
   ·simp only [Sum.inl.injEq] at e
    subst e
    have:=h.know_len C m.peer.toNat
    show (r.q++(r.know m.peer.toNat).map fun n=>(m.peer.toNat,m.to.toNat,n)).length<=_
    rw [List.length_append,List.length_map]
    omega
   ·cases e
  ·split at e
   ·split at e
    ·simp only [Sum.inl.injEq] at e
     subst e
     unfold PR.deliver
     have hd:(r.q.eraseIdx m.at'.toNat).length<=r.q.length:=List.length_eraseIdx_le ..
     split
     ·omega
     ·split
      ·show (r.q.eraseIdx m.at'.toNat).length<=_
       omega
      ·show (r.q.eraseIdx m.at'.toNat).length<=_
       omega
    ·cases e
   ·split at e
    ·split at e
     ·simp only [Sum.inl.injEq] at e
      subst e
      have hd:(r.q.eraseIdx m.at'.toNat).length<=r.q.length:=List.length_eraseIdx_le ..
      show (r.q.eraseIdx m.at'.toNat).length<=_
      omega
     ·cases e
    ·split at e
     ·split at e
      ·simp only [Sum.inl.injEq] at e
       subst e
       unfold PR.rep
       split
       ·omega
       ·show (r.q++[_]).length<=_
        rw [List.length_append]
        show r.q.length+1<=_
        omega
      ·cases e
     ·cases e
end
inductive FrzO (b:Nat) (o:PObj):PObj->PObj->Prop
 | refl (x:PObj):FrzO b o x x
 | arr (T:TypeId) {cs ds:List PV} (h:Frzs b o cs ds):FrzO b o (.arr T cs) (.arr T ds)
inductive FrzSt (b:Nat) (o:PObj):q5f->q5f->Prop
 | nil:FrzSt b o [] []
 | cons {c:Nat} {x y:PObj} {st st':q5f} (h:FrzO b o x y) (t:FrzSt b o st st'):FrzSt b o ((c,x)::st) ((c,y)::st')
end Go.Pv
