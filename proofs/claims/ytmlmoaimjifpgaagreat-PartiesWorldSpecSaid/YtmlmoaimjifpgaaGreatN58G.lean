/- A message, read. -/
import Derived.Test.YtmlmoaimjifpgaaGreatD58E
namespace Go.Proofs.YtmlmoaimjifpgaaGreat
open Go.Pv Go.Pv.Cd
set_option maxRecDepth 100000
set_option maxHeartbeats 8000000
def ReadP (L:List (BitVec 8))(st:q5c)(e:PEnd)(s:q5c):Prop:=∃ (n:Note) (ok:Bool),e=.ret (.tuple [n.pv,.bool ok])/\s=st/\match q8c L with
 | some m=>ok=true/\n=m
 | none=>ok=false
theorem ReadP.no {L:List (BitVec 8)}{st:q5c}(h:q8c L=none)(n:Note):ReadP L st (.ret (.tuple [n.pv,.bool false])) st:=
 ⟨n,false,rfl,rfl,by rw [h]⟩
theorem k6t:∀ l:List Vl,q8t l=l.flatMap q6n
 | []=>rfl
 | v::l=>by rw [q8t,k6t l,List.flatMap_cons]
def z9k:Vl->Int
 | .int _=>1
 | .text _=>2
 | .list _=>3
def j52:Vl->Int
 | .int n=>n
 | _=>0
theorem z19 (l:List Vl)(i:Nat)(h:i<l.length):(q8t l)[i*4]?=some (.int (z9k l[i])):=by
 rw [k6t]
 have:=k3h (enc:=q6n) (k:=4) k3q l i 0 h (by omega)
 rw [Nat.add_zero] at this
 rw [this]
 cases l[i] <;> rfl
theorem z6p (l:List Vl)(i:Nat)(h:i<l.length):(q8t l)[i*4+1]?=some (.int (j52 l[i])):=by
 rw [k6t]
 have:=k3h (enc:=q6n) (k:=4) k3q l i 1 h (by omega)
 rw [this]
 cases l[i] <;> rfl
structure RdI (l:List Vl)(i:Nat)(X:List Int):Prop where
 le:i<=24
 len:X.length=24
 is:q8w l=(q8w (l.drop i)).map (X.take i++·)
theorem RdI.zero (l:List Vl):RdI l 0 (List.replicate 24 0):=⟨by omega,by simp,by
 rw [List.drop_zero]
 cases q8w l with
 | none=>rfl
 | some k=>rfl⟩
theorem RdI.bad {l:List Vl}{i:Nat}{X:List Int}(h:RdI l i X)(hi:i<l.length)(hk:¬ z9k l[i]=1):q8w l=none:=by
 rw [h.is,<-List.getElem_cons_drop hi]
 cases e:l[i] with
 | int n=>rw [e] at hk; exact absurd rfl hk
 | text s=>rfl
 | list s=>rfl
theorem RdI.next {l:List Vl}{i:Nat}{X:List Int}(h:RdI l i X)(hi:i<l.length)(h24:i<24)(hk:z9k l[i]=1):RdI l (i+1) (X.set i (j52 l[i])):=by
 refine⟨by omega,by rw [List.length_set,h.len], ?_⟩
 rw [h.is,<-List.getElem_cons_drop hi]
 have hx:i<X.length:=by rw [h.len]; exact h24
 have e2:(X.set i (j52 l[i])).take (i+1)=X.take i++[j52 l[i]]:=by
  rw [List.take_succ_eq_append_getElem (by rw [List.length_set]; exact hx),List.getElem_set_self,List.take_set_of_le (Nat.le_refl _)]
 rw [e2]
 cases e:l[i] with
 | int n=>
  rw [q8w]
  cases q8w (l.drop (i+1)) with
  | none=>rfl
  | some k=>simp [j52]
 | text s=>rw [e] at hk; exact absurd hk (show ¬ (2:Int)=1 by decide)
 | list s=>rw [e] at hk; exact absurd hk (show ¬ (3:Int)=1 by decide)
theorem RdI.done {l:List Vl}{X:List Int}(h:RdI l 24 X)(hl:l.length=24):q8w l=some X:=by
 rw [h.is,List.drop_eq_nil_of_le (by omega),List.take_of_length_le (by rw [h.len]; omega)]
 simp [q8w]
def z9l (X:List Int):List PV:=X.map fun x=>.int x
theorem z2a {X:List Int}(h:X.length=24):z9l X=(q8b X).enc:=by
 rw [Note.enc_ints,k4q h]
 rfl
theorem z6q (L:List (BitVec 8))(hL:L.length<=100000)(st:q5c):PCalls P F.q16 [q54 false L] st (ReadP L st):=by
 have dc:=fun st=>z9d L hL st
 unfold j1k j1l at dc
 cases hd:Go.Pv.Cd.decode L with
 | none=>
  rw [hd] at dc
  simp only at dc
  have e:=Hid.mk (ReadP.no (L:=L) (st:=st) (by unfold q8c; rw [hd]) (q8b []))
  clear hd
  refine H.q16.view q5l rfl rfl ?_
  repeat' (first 
   | (with_reducible refine Fresh.intro fun b hb=>?_) <;> (try simp -dsimp -implicitDefEqProofs [*] at hb)
   | (with_reducible refine Rets.xcall (dc _) ?_)
   | (with_reducible refine Rets.xcall (q90 _ _) ?_)
   | (simp -dsimp -implicitDefEqProofs [*]))
  exact RetView.drop (st':=st) q5m e.out
 | some v=>
  rw [hd] at dc
  simp only at dc
  cases v with
  | int n=>
   have e:=Hid.mk (ReadP.no (L:=L) (st:=st) (by unfold q8c; rw [hd]) (q8b []))
   clear hd
   simp only [q6n] at dc
   refine H.q16.view q5l rfl rfl ?_
   repeat' (first 
    | (with_reducible refine Fresh.intro fun b hb=>?_) <;> (try simp -dsimp -implicitDefEqProofs [*] at hb)
    | (with_reducible refine Rets.xcall (dc _) ?_)
    | (with_reducible refine Rets.xcall (q90 _ _) ?_)
    | (simp -dsimp -implicitDefEqProofs [*]))
   exact RetView.drop (st':=st) q5m e.out
  | text s=>
   have e:=Hid.mk (ReadP.no (L:=L) (st:=st) (by unfold q8c; rw [hd]) (q8b []))
   clear hd
   simp only [q6n] at dc
   refine H.q16.view q5l rfl rfl ?_
   repeat' (first 
    | (with_reducible refine Fresh.intro fun b hb=>?_) <;> (try simp -dsimp -implicitDefEqProofs [*] at hb)
    | (with_reducible refine Rets.xcall (dc _) ?_)
    | (with_reducible refine Rets.xcall (q90 _ _) ?_)
    | (simp -dsimp -implicitDefEqProofs [*]))
   exact RetView.drop (st':=st) q5m e.out
  | list l=>
   simp only [q6n] at dc
   by_cases hl:l.length=24
   case neg=>
    have e:=Hid.mk (ReadP.no (L:=L) (st:=st) (by
     unfold q8c
     rw [hd]
     simp only
     cases e:q8w l with
     | none=>rfl
     | some k=>
      simp only
      rw [if_neg]
      rintro⟨h1, -⟩
      have:=congrArg List.length (k5r e)
      rw [List.length_map] at this
      omega) (q8b []))
    have hl2:¬ (l.length:Int)=24:=by omega
    clear hd
    refine H.q16.view q5l rfl rfl ?_
    repeat' (first 
     | (with_reducible refine Fresh.intro fun b hb=>?_) <;> (try simp -dsimp -implicitDefEqProofs [*] at hb)
     | (with_reducible refine Rets.xcall (dc _) ?_)
     | (with_reducible refine Rets.xcall (q90 _ _) ?_)
     | (simp -dsimp -implicitDefEqProofs [*]))
    exact RetView.drop (st':=st) q5m e.out
   have e0:=Hid.mk (RdI.zero l)
   replace hd:=Hid.mk hd
   refine H.q16.view q5l rfl rfl ?_
   repeat' (first 
    | (with_reducible refine Fresh.intro fun b hb=>?_) <;> (try simp -dsimp -implicitDefEqProofs [*] at hb)
    | (with_reducible refine Rets.xcall (dc _) ?_)
    | (with_reducible refine Rets.xcall (q90 _ _) ?_)
    | (simp -dsimp -implicitDefEqProofs [*]))
   rename_i q hq
   clear dc
   refine q5e (fun y:Nat × List Int=>[(31,.list false (j1c (.ptr q) 0 24) 24),(32,.int 24),(33,.int y.1),(4,.ptr b 0),(3,.bool false),(2,.ptr q 0)]) (fun y=>(b,.arr T.apiValue [.int 3,.int 0,q6y,.list false (q8t l) 24])::(q,.arr T.apiNote (z9l y.2))::st) (fun y=>Hid (RdI l y.1 y.2)) (fun y=>24-y.1) (0,List.replicate 24 0) e0 (by simp) (.refl _) ?_
   clear e0
   rintro⟨i,X⟩ hI
   replace hI:Hid (RdI l i X):=hI
   simp only
   have hXl:(z9l X).length=24:=by unfold z9l; rw [List.length_map,hI.out.len]
   have hXs:=sub_all hXl
   by_cases hil:i<24
   case neg=>
    obtain rfl:i=24:=by have:=hI.out.le; omega
    have hk:=hI.out.done hl
    have hX:=hI.out.len
    have hre:=z2a hX
    have fm:=fun st=>k1w (q8b X) st
    have e:Hid (ReadP L st (.ret (.tuple [(q8b X).pv,.bool (q5s (q8b X))])) st):=⟨q8b X,_,rfl,rfl,by
     unfold q8c
     rw [hd.out]
     simp only
     rw [hk]
     simp only
     by_cases hf:q5s (q8b X)=true
     ·rw [if_pos ⟨hX,hf⟩]
      exact⟨hf,rfl⟩
     ·rw [if_neg fun h=>hf h.2]
      simpa using hf⟩
    rw [hre] at hXl hXs ⊢
    clear hre hk hd hI
    repeat' (first 
     | (with_reducible refine Rets.xcall (fm _) ?_)
     | (with_reducible refine DrawLate.intro [] ?_)
     | (simp -dsimp -implicitDefEqProofs [*]))
    exact RetView.drop (st':=st) q5m e.out
   have hwi:=q5f (n:=i) (by omega)
   have hil2:i<l.length:=by omega
   have p1:=z34 (.ptr q) 24 0 i hil
   rw [Nat.zero_add] at p1
   have P1:=q6b p1
   have hpl:=z35 (.ptr q) 24 0
   have k1:=z19 l i hil2
   have K1:=q6b k1
   have n1:=z6p l i hil2
   have N1:=q6b n1
   have hrl:=k5v l
   by_cases hkd:z9k l[i]=1
   case neg=>
    have e:=Hid.mk (ReadP.no (L:=L) (st:=st) (by unfold q8c; rw [hd.out]; simp only; rw [hI.out.bad hil2 hkd]) (q8b X))
    have hre:=z2a hI.out.len
    rw [hre] at hXl hXs ⊢
    clear hre hd hI
    repeat' (first 
     | (with_reducible refine And.intro (fun h=>?_) (fun h=>?_)) <;> (try (exfalso; omega))
     | ((with_reducible refine q5r ?_ fun hk=>?_); omega)
     | (simp -dsimp -implicitDefEqProofs [*]))
    exact RetView.drop (st':=st) q5m e.out
   have hn:=Hid.mk (hI.out.next hil2 hil hkd)
   have hset:(z9l X).set i (.int (j52 l[i]))=z9l (X.set i (j52 l[i])):=by unfold z9l; rw [List.map_set]
   rw [hkd] at k1
   simp only [hkd] at K1
   obtain⟨x,hx⟩:∃ x,x=j52 l[i]:=⟨_,rfl⟩
   rw [<-hx] at n1 hset hn
   simp only [<-hx] at N1
   clear hx hkd hd hI
   repeat' (first 
    | (with_reducible refine And.intro (fun h=>?_) (fun h=>?_)) <;> (try (exfalso; omega))
    | ((with_reducible refine q5r ?_ fun hk=>?_); omega)
    | (simp -dsimp -implicitDefEqProofs [*]))
   exact Next.intro (i+1,X.set i x) hn (by simp only; omega) (by simp) q5m
open Go.Pv
set_option maxRecDepth 100000
set_option maxHeartbeats 8000000
structure Pk where
 fr:Int
 to:Int
 d:List (BitVec 8)
 deriving DecidableEq
instance:Inhabited Pk:=⟨⟨0,0,[]⟩⟩
def Pk.enc (x:Pk):List PV:=[.int x.fr,.int x.to,q54 false x.d]
abbrev Pk.pv (x:Pk):PV:=.agg x.enc
section
variable (x:Pk) (b k:Nat) (o:PObj)
@[simp] theorem Pk.len:x.enc.length=3:=rfl
@[simp] theorem Pk.sub_all:sub x.enc 0 3=some x.enc:=rfl
@[simp] theorem Pk.get0:x.enc[0]?=some (.int x.fr):=rfl
@[simp] theorem Pk.get1:x.enc[1]?=some (.int x.to):=rfl
@[simp] theorem Pk.get2:x.enc[2]?=some (q54 false x.d):=rfl
@[simp] theorem Pk.getE0 (h:0<x.enc.length):x.enc[0]'h=.int x.fr:=rfl
@[simp] theorem Pk.getE1 (h:1<x.enc.length):x.enc[1]'h=.int x.to:=rfl
@[simp] theorem Pk.getE2 (h:2<x.enc.length):x.enc[2]'h=q54 false x.d:=rfl
end
def Pk.row (l:List Pk):List PV:=l.flatMap Pk.enc
abbrev Pk.lst (t:Bool)(l:List Pk):PV:=.list t (Pk.row l) l.length
@[simp] theorem Pk.row_len (l:List Pk):(Pk.row l).length=l.length*3:=q53 Pk.enc 3 Pk.len l
@[simp] theorem Pk.row_nil:Pk.row []=[]:=rfl
@[simp] theorem Pk.row_cons (x:Pk)(l:List Pk):Pk.row (x::l)=x.enc++Pk.row l:=rfl
theorem Pk.row_append (l m:List Pk):Pk.row (l++m)=Pk.row l++Pk.row m:=by simp [Pk.row]
@[simp] theorem Pk.row_sub (l:List Pk)(i:Nat)(h:i<l.length):sub (Pk.row l) (i*3) 3=some (l[i]).enc:=q7i Pk.enc 3 Pk.len l i h
abbrev k7u (q:List Pk):PV:=.agg [Pk.lst false q,.list false [] 0]
def j8z (a b:Int):Bool:=decide (0<=a) && decide (a<b) && decide (b<24)
def pkB (p:Pk):Bool:=j8z (min p.fr p.to) (max p.fr p.to) && decide (p.d.length<=1048576)
theorem k5x (a b:Int)(st:q5c):Rets P F.q3i [.int a,.int b] st (.agg [.int (min a b),.int (max a b)]):=by
 have e1:(if b<a then b else a)=min a b:=by rw [Int.min_def]; split <;> split <;> omega
 have e2:(if a<b then b else a)=max a b:=by rw [Int.max_def]; split <;> split <;> omega
 refine H.q3i.view q5l rfl rfl ?_
 repeat' (first 
  | (with_reducible refine Fresh.intro fun b hb=>?_) <;> (try simp -dsimp -implicitDefEqProofs [*] at hb)
  | (simp -dsimp -implicitDefEqProofs [*]))
 exact RetView.drop (st':=st) q5m ⟨rfl,rfl⟩
theorem z9m (a b:Int)(st:q5c):Rets P F.q2t [.agg [.int a,.int b]] st (.bool (j8z a b)):=by
 refine H.q2t.pure q5l rfl rfl ?_
 repeat' (first 
  | (with_reducible refine Fresh.intro fun b hb=>?_) <;> (try simp -dsimp -implicitDefEqProofs [*] at hb)
  | (with_reducible refine And.intro (fun h=>?_) (fun h=>?_)) <;> (try (exfalso; omega))
  | (simp -dsimp -implicitDefEqProofs [j8z, *]))
 all_goals (intros; omega)
theorem k9r (p:Pk)(st:q5c):Rets P F.q3y [p.pv] st (.bool (pkB p)):=by
 refine H.q3y.pure q5l rfl rfl ?_
 repeat' (first 
  | (with_reducible refine Fresh.intro fun b hb=>?_) <;> (try simp -dsimp -implicitDefEqProofs [*] at hb)
  | (with_reducible refine Rets.xcall (k5x _ _ _) ?_)
  | (with_reducible refine Rets.xcall (z9m _ _ _) ?_)
  | (with_reducible refine And.intro (fun h=>?_) (fun h=>?_)) <;> (try (exfalso; omega))
  | (simp -dsimp -implicitDefEqProofs [pkB, *]))
 all_goals exact⟨fun h=>by omega,fun h=>by omega⟩
theorem z9n (p:Pk)(st:q5c):Rets P F.q2n [p.pv] st (.bool (!pkB p)):=by
 have c:=fun st=>k9r p st
 refine H.q2n.pure q5l rfl rfl ?_
 repeat' (first 
  | (with_reducible refine Fresh.intro fun b hb=>?_) <;> (try simp -dsimp -implicitDefEqProofs [*] at hb)
  | (with_reducible refine Rets.xcall (c _) ?_)
  | (simp -dsimp -implicitDefEqProofs [*]))
theorem j20 (q:List Pk)(hl:q.length<=100000)(hq:∀ p ∈ q,pkB p=true)(st:q5c):Rets P F.q00 [Pk.lst false q,.func (.func F.q2n) [] []] st (.int (-1)):=by
 refine H.q00.pure q5l rfl rfl ?_
 repeat' (simp -dsimp -implicitDefEqProofs [*])
 refine q5e (fun i:Nat=>[(8,.int i),(7,.int q.length),(4,.int 0),(0,Pk.lst false q),(1,.func (.func F.q2n) [] [])]) (fun _=>st) (fun i=>i<=q.length) (fun i=>q.length-i) 0 (Nat.zero_le _) (by simp) (.refl _) ?_
 intro i hi
 by_cases hil:i<q.length
 ·have hwi:=q5f (n:=i) (by omega)
  have c:=fun st=>z9n q[i] st
  rw [hq _ (List.getElem_mem hil)] at c
  have hs:=Pk.row_sub q i hil
  have hr:=Pk.row_len q
  clear hq
  repeat' (first 
   | (with_reducible refine Rets.xcall (c _) ?_)
   | (simp -dsimp -implicitDefEqProofs [*]))
  exact Next.intro (i+1) (by omega) (by omega) (by simp) q5m
 ·obtain rfl:i=q.length:=by omega
  clear hq
  repeat' (simp -dsimp -implicitDefEqProofs [*])
theorem z36 (q:List Pk)(hl:q.length<=100000)(hq:∀ p ∈ q,pkB p=true)(st:q5c):Rets P F.q0v [Pk.lst false q,.func (.func F.q2n) [] []] st (.bool false):=by
 have c:=fun st=>j20 q hl hq st
 clear hq
 refine H.q0v.pure q5l rfl rfl ?_
 repeat' (first 
  | (with_reducible refine Rets.xcall (c _) ?_)
  | (simp -dsimp -implicitDefEqProofs [*]))
theorem k1x (q:List Pk)(hl:q.length<=4096)(hq:∀ p ∈ q,pkB p=true)(st:q5c):Rets P F.q3n [k7u q] st (.int 0):=by
 have c:=fun st=>z36 q (by omega) hq st
 have h1:¬ (4096:Int)<q.length:=by omega
 clear hq
 refine H.q3n.pure q5l rfl rfl ?_
 repeat' (first 
  | (with_reducible refine Fresh.intro fun b hb=>?_) <;> (try simp -dsimp -implicitDefEqProofs [*] at hb)
  | (with_reducible refine Rets.xcall (c _) ?_)
  | (simp -dsimp -implicitDefEqProofs [*]))
 refine q5e (fun _:Nat=>[(17,.int 0),(16,.int 0)]) (fun _=>st) (fun _=>True) (fun i=>i) 0 trivial (by simp) q5m ?_
 rintro i -
 repeat' (simp -dsimp -implicitDefEqProofs [*])
open Go.Pv
set_option maxRecDepth 100000
set_option maxHeartbeats 8000000
theorem PLeV.tuple2 {p q p' q':PV}(h1:PLe p p')(h2:PLe q q'):PLe (.tuple [p,q]) (.tuple [p',q']):=fun I v h=>by
 simp only [vrep] at h ⊢
 obtain⟨vs,h3,h4⟩:=h
 match vs,h4 with
 | [a,b],h4=>
  simp only [vreps] at h4
  exact⟨[a,b],h3,by simp only [vreps]; exact⟨h1 I _ h4.1,h2 I _ h4.2.1,trivial⟩⟩
theorem k8b:PLe (.agg [.nil,.nil]) (k7u []):=PLeV.aggs ⟨.nil1,.nil1,trivial⟩
theorem y0w (q m:List Pk)(b cap n:Nat)(hn:(q++m).length=n)(h1:n<=cap)(h2:cap<=9223372036854775807)(C:List PV) :
  Frz b (.arr T.apiPacket (Pk.row (q++m)++C)) (.own b 0 n cap) (.list false (Pk.row (q++m)) n):=by
 have:=Frz.own (b:=b) (o:=.arr T.apiPacket (Pk.row (q++m)++C)) T.apiPacket _ 0 n cap 3 rfl h1 h2
 rwa [List.drop_zero,List.take_left' (by rw [Pk.row_len,hn])] at this
theorem Pk.row_drop (l:List Pk)(i:Nat):(Pk.row l).drop (i*3)=Pk.row (l.drop i):=k09 Pk.enc 3 Pk.len l i
theorem Pk.row_take (l:List Pk)(i:Nat):(Pk.row l).take (i*3)=Pk.row (l.take i):=k5k Pk.enc 3 Pk.len l i
theorem z6r (q:List Pk)(hl:q.length<4096)(hq:∀ p ∈ q,pkB p=true)(p:Pk)(hp:pkB p=true)(st:q5c):Rets P F.q4e [k7u q,p.pv] st (.tuple [k7u (q++[p]),.int 0]):=by
 have c:=fun st=>k1x q (by omega) hq st
 have k:=fun st=>k9r p st
 rw [hp] at k
 clear hq hp
 refine H.q4e.view q5l rfl rfl ?_
 repeat' (first 
  | (with_reducible refine Fresh.intro fun b hb=>?_) <;> (try simp -dsimp -implicitDefEqProofs [*] at hb)
  | (with_reducible refine Rets.xcall (c _) ?_)
  | (with_reducible refine Rets.xcall (k _) ?_)
  | ((with_reducible refine Grow.intro ?_ fun b cap hb hc1 hc2=>?_); omega) <;> (try simp -dsimp -implicitDefEqProofs [*] at hb)
  | (with_reducible refine DrawLate.intro [] ?_)
  | (with_reducible refine q59 ?_ ?_)
  | (with_reducible exact Cls.self _ _)
  | (with_reducible refine q6p ?_ ?_)
  | (with_reducible refine And.intro (fun h=>?_) (fun h=>?_)) <;> (try (exfalso; omega))
  | (simp -dsimp -implicitDefEqProofs [*]))
 have hfr:=y0w q [p] b cap (q.length+1) (by simp) hc1 hc2 (List.replicate ((cap-(q.length+1))*3) PV.any)
 have e:Pk.row (q++[p])++List.replicate ((cap-(q.length+1))*3) PV.any=List.take (q.length*3) (Pk.row q)++(p.enc++List.replicate ((cap-(q.length+1))*3) PV.any):=by
  rw [List.take_of_length_le (by simp),Pk.row_append]
  simp
 rw [e] at hfr
 refine RetView.freeze (.tuple [.agg [.list false (Pk.row (q++[p])) (q.length+1),.list false [] 0],.int 0]) (by simp [*]) (.tuple (.cons (.agg (.cons hfr (.cons (.refl _) .nil))) (.cons (.refl _) .nil))) ?_
 exact RetView.drop (st':=st) q5m ⟨by rw [show q.length+1=(q++[p]).length by simp],rfl⟩
theorem z9o (q:List Pk)(hl:q.length<=4096)(hq:∀ p ∈ q,pkB p=true)(i:Nat)(hi:i<q.length)(st:q5c):Rets P F.q30 [k7u q,.int i] st (.tuple [q[i].pv,.int 0]):=by
 have c:=fun st=>k1x q hl hq st
 have hs:=Pk.row_sub q i hi
 have hr:=Pk.row_len q
 clear hq
 generalize q[i]=p at *
 refine H.q30.view q5l rfl rfl ?_
 repeat' (first 
  | (with_reducible refine Fresh.intro fun b hb=>?_) <;> (try simp -dsimp -implicitDefEqProofs [*] at hb)
  | (with_reducible refine Rets.xcall (c _) ?_)
  | (with_reducible refine And.intro (fun h=>?_) ?_) <;> (try (exfalso; omega))
  | (simp -dsimp -implicitDefEqProofs [*]))
 exact RetView.drop (st':=st) q5m ⟨rfl,rfl⟩
theorem y2m (q:List Pk)(hl:q.length<=4096)(hq:∀ p ∈ q,pkB p=true)(i:Int)(hi:¬ (0<=i/\i<q.length))(st:q5c):Rets P F.q30 [k7u q,.int i] st (.tuple [(⟨0,0,[]⟩:Pk).pv,.int 1]):=by
 have c:=fun st=>k1x q hl hq st
 clear hq
 refine H.q30.view q5l rfl rfl ?_
 repeat' (first 
  | (with_reducible refine Fresh.intro fun b hb=>?_) <;> (try simp -dsimp -implicitDefEqProofs [*] at hb)
  | (with_reducible refine Rets.xcall (c _) ?_)
  | (with_reducible refine And.intro (fun h=>?_) (fun h=>?_)) <;> (try (exfalso; omega))
  | (simp -dsimp -implicitDefEqProofs [*]))
 all_goals exact RetView.sees (SeesV.le (q:=.tuple [(⟨0,0,[]⟩:Pk).pv,.int 1]) (PLeV.tuple2 (PLeV.aggs ⟨.refl _,.refl _,.nil1,trivial⟩) (.refl _))) (RetView.drop (st':=st) q5m ⟨rfl,rfl⟩)
theorem k7j (q:List Pk)(hl:q.length<=4096)(i:Nat)(hi:i<q.length)(st:q5c):Rets P F.q3j [k7u q,.int i] st (k7u (q.eraseIdx i)):=by
 have hwi:IntKind.i64.wrap ((i:Int)+1)=((i+1:Nat):Int):=q5f (n:=i) (by omega)
 have hr:=Pk.row_len q
 have hx:q.length*3-(i+1)*3=(q.length-(i+1))*3:=by omega
 refine H.q3j.view q5l rfl rfl ?_
 have ee:=List.eraseIdx_eq_take_drop_succ (l:=q) (i:=i)
 repeat' (first 
  | (with_reducible refine Fresh.intro fun b hb=>?_) <;> (try simp -dsimp -implicitDefEqProofs [*] at hb)
  | ((with_reducible refine Grow.intro ?_ fun b cap hb hc1 hc2=>?_); omega) <;> (try simp -dsimp -implicitDefEqProofs [*] at hb)
  | (with_reducible refine DrawLate.intro [] ?_)
  | (with_reducible refine q59 ?_ ?_)
  | (with_reducible exact Cls.self _ _)
  | (with_reducible refine q6p ?_ ?_)
  | (with_reducible refine And.intro (fun h=>?_) (fun h=>?_)) <;> (try (exfalso; omega))
  | ((with_reducible refine q5r ?_ fun hk=>?_); omega)
  | (simp -dsimp -implicitDefEqProofs [*]))
 ·rename_i b0 hb0
  have e1:q.eraseIdx i=q.take i:=by rw [ee,List.drop_eq_nil_of_le (by omega),List.append_nil]
  have e2:(q.take i).length=i:=by rw [List.length_take]; omega
  refine RetView.sees (SeesV.le (q:=.agg [.list false (List.take (i*3) (Pk.row q)) i,.list false [] 0]) (PLeV.aggs ⟨.loose,.refl _,trivial⟩)) (RetView.drop (st':=st) q5m ⟨?_,rfl⟩)
  rw [<-ee,e1,Pk.row_take]
  show _=PEnd.ret (.agg [.list false (Pk.row (q.take i)) (q.take i).length,.list false [] 0])
  rw [e2]
 ·have hl2:(q.take i++q.drop (i+1)).length=i+(q.length-(i+1)):=by rw [List.length_append,List.length_take,List.length_drop]; omega
  have hfr:=y0w (q.take i) (q.drop (i+1)) b cap (i+(q.length-(i+1))) hl2 hc1 hc2 (List.replicate ((cap-(i+(q.length-(i+1))))*3) PV.any)
  have e:Pk.row (q.take i++q.drop (i+1))++List.replicate ((cap-(i+(q.length-(i+1))))*3) PV.any=List.take (i*3) (Pk.row q)++(List.drop ((i+1)*3) (Pk.row q)++List.replicate ((cap-(i+(q.length-(i+1))))*3) PV.any):=by
   rw [Pk.row_take,Pk.row_drop,Pk.row_append,List.append_assoc]
  rw [e] at hfr
  refine RetView.freeze (.agg [.list false (Pk.row (q.take i++q.drop (i+1))) (i+(q.length-(i+1))),.list false [] 0]) (by simp [*]) (.agg (.cons hfr (.cons (.refl _) .nil))) ?_
  exact RetView.drop (st':=st) q5m ⟨by rw [<-hl2],rfl⟩
open Go.Pv
set_option maxRecDepth 100000
set_option maxHeartbeats 8000000
theorem PLeV.tuple3 {p q r p' q' r':PV}(h1:PLe p p')(h2:PLe q q')(h3:PLe r r'):PLe (.tuple [p,q,r]) (.tuple [p',q',r']):=fun I v h=>by
 simp only [vrep] at h ⊢
 obtain⟨vs,h4,h5⟩:=h
 match vs,h5 with
 | [a,b,c],h5=>
  simp only [vreps] at h5
  exact⟨[a,b,c],h4,by simp only [vreps]; exact⟨h1 I _ h5.1,h2 I _ h5.2.1,h3 I _ h5.2.2.1,trivial⟩⟩
theorem z9p (a b:Int)(st:q5c):Rets P F.q17 [.list false [] 0,.agg [.int a,.int b]] st (.int (-1)):=by
 refine H.q17.pure q5l rfl rfl ?_
 repeat' (first 
  | (with_reducible refine Fresh.intro fun b hb=>?_) <;> (try simp -dsimp -implicitDefEqProofs [*] at hb)
  | (simp -dsimp -implicitDefEqProofs [*]))
 refine q5e (fun _:Nat=>[(8,.int 0),(7,.int 0)]) (fun _=>st) (fun _=>True) (fun i=>i) 0 trivial (by simp) q5m ?_
 rintro i -
 repeat' (simp -dsimp -implicitDefEqProofs [*])
theorem j53 (a b:Int)(st:q5c):Rets P F.q1v [.list false [] 0,.agg [.int a,.int b]] st (.bool false):=by
 refine H.q1v.pure q5l rfl rfl ?_
 repeat' (first 
  | (with_reducible refine Fresh.intro fun b hb=>?_) <;> (try simp -dsimp -implicitDefEqProofs [*] at hb)
  | (with_reducible refine Rets.xcall (z9p _ _ _) ?_)
  | (simp -dsimp -implicitDefEqProofs [*]))
theorem j21 (q:List Pk)(hl:q.length<=4096)(hq:∀ p ∈ q,pkB p=true)(i:Nat)(hi:i<q.length)(st:q5c):Rets P F.q25 [k7u q,.int i] st (.tuple [q[i].pv,k7u (q.eraseIdx i),.int 0]):=by
 have a:=fun st=>z9o q hl hq i hi st
 have w:=fun st=>k7j q hl i hi st
 clear hq
 generalize q[i]=p at *
 generalize q.eraseIdx i=q2 at *
 refine H.q25.view q5l rfl rfl ?_
 repeat' (first 
  | (with_reducible refine Fresh.intro fun b hb=>?_) <;> (try simp -dsimp -implicitDefEqProofs [*] at hb)
  | (with_reducible refine Rets.xcall (a _) ?_)
  | (with_reducible refine Rets.xcall (k5x _ _ _) ?_)
  | (with_reducible refine Rets.xcall (j53 _ _ _) ?_)
  | (with_reducible refine Rets.xcall (w _) ?_)
  | (with_reducible refine DrawLate.intro [] ?_)
  | (simp -dsimp -implicitDefEqProofs [*]))
 exact RetView.drop (st':=st) q5m ⟨rfl,rfl⟩
theorem j22 (q:List Pk)(hl:q.length<=4096)(hq:∀ p ∈ q,pkB p=true)(i:Int)(hi:¬ (0<=i/\i<q.length))(st:q5c):Rets P F.q25 [k7u q,.int i] st (.tuple [(⟨0,0,[]⟩:Pk).pv,k7u [],.int 1]):=by
 have a:=fun st=>y2m q hl hq i hi st
 clear hq
 refine H.q25.view q5l rfl rfl ?_
 repeat' (first 
  | (with_reducible refine Fresh.intro fun b hb=>?_) <;> (try simp -dsimp -implicitDefEqProofs [*] at hb)
  | (with_reducible refine Rets.xcall (a _) ?_)
  | (with_reducible refine DrawLate.intro [] ?_)
  | (simp -dsimp -implicitDefEqProofs [*]))
 exact RetView.sees (SeesV.le (q:=.tuple [(⟨0,0,[]⟩:Pk).pv,k7u [],.int 1]) (PLeV.tuple3 (.refl _) k8b (.refl _))) (RetView.drop (st':=st) q5m ⟨rfl,rfl⟩)
theorem y2n (q:List Pk)(hl:q.length<=4096)(hq:∀ p ∈ q,pkB p=true)(i:Nat)(hi:i<q.length)(st:q5c):Rets P F.q32 [k7u q,.int i] st (.tuple [k7u (q.eraseIdx i),.int 0]):=by
 have a:=fun st=>z9o q hl hq i hi st
 have w:=fun st=>k7j q hl i hi st
 clear hq
 generalize q[i]=p at *
 generalize q.eraseIdx i=q2 at *
 refine H.q32.view q5l rfl rfl ?_
 repeat' (first 
  | (with_reducible refine Fresh.intro fun b hb=>?_) <;> (try simp -dsimp -implicitDefEqProofs [*] at hb)
  | (with_reducible refine Rets.xcall (a _) ?_)
  | (with_reducible refine Rets.xcall (w _) ?_)
  | (simp -dsimp -implicitDefEqProofs [*]))
 exact RetView.drop (st':=st) q5m ⟨rfl,rfl⟩
theorem y2o (q:List Pk)(hl:q.length<=4096)(hq:∀ p ∈ q,pkB p=true)(i:Int)(hi:¬ (0<=i/\i<q.length))(st:q5c):Rets P F.q32 [k7u q,.int i] st (.tuple [k7u [],.int 1]):=by
 have a:=fun st=>y2m q hl hq i hi st
 clear hq
 refine H.q32.view q5l rfl rfl ?_
 repeat' (first 
  | (with_reducible refine Fresh.intro fun b hb=>?_) <;> (try simp -dsimp -implicitDefEqProofs [*] at hb)
  | (with_reducible refine Rets.xcall (a _) ?_)
  | (simp -dsimp -implicitDefEqProofs [*]))
 exact RetView.sees (SeesV.le (q:=.tuple [k7u [],.int 1]) (PLeV.tuple2 k8b (.refl _))) (RetView.drop (st':=st) q5m ⟨rfl,rfl⟩)
theorem j54 (q:List Pk)(hl:q.length<4096)(hq:∀ p ∈ q,pkB p=true)(i:Nat)(hi:i<q.length)(st:q5c):Rets P F.q29 [k7u q,.int i] st (.tuple [k7u (q++[q[i]]),.int 0]):=by
 have a:=fun st=>z9o q (by omega) hq i hi st
 have w:=fun st=>z6r q hl hq q[i] (hq _ (List.getElem_mem hi)) st
 clear hq
 generalize q[i]=p at *
 generalize q++[p]=q2 at *
 refine H.q29.view q5l rfl rfl ?_
 repeat' (first 
  | (with_reducible refine Fresh.intro fun b hb=>?_) <;> (try simp -dsimp -implicitDefEqProofs [*] at hb)
  | (with_reducible refine Rets.xcall (a _) ?_)
  | (with_reducible refine Rets.xcall (w _) ?_)
  | (simp -dsimp -implicitDefEqProofs [*]))
 exact RetView.drop (st':=st) q5m ⟨rfl,rfl⟩
theorem j55 (q:List Pk)(hl:q.length<=4096)(hq:∀ p ∈ q,pkB p=true)(i:Int)(hi:¬ (0<=i/\i<q.length))(st:q5c):Rets P F.q29 [k7u q,.int i] st (.tuple [k7u [],.int 1]):=by
 have a:=fun st=>y2m q hl hq i hi st
 clear hq
 refine H.q29.view q5l rfl rfl ?_
 repeat' (first 
  | (with_reducible refine Fresh.intro fun b hb=>?_) <;> (try simp -dsimp -implicitDefEqProofs [*] at hb)
  | (with_reducible refine Rets.xcall (a _) ?_)
  | (simp -dsimp -implicitDefEqProofs [*]))
 exact RetView.sees (SeesV.le (q:=.tuple [k7u [],.int 1]) (PLeV.tuple2 k8b (.refl _))) (RetView.drop (st':=st) q5m ⟨rfl,rfl⟩)
open Go.Pv
set_option maxRecDepth 100000
set_option maxHeartbeats 8000000
abbrev okN (n:Note):Prop:=q5s n=true
theorem k5y {l:List Note}{i:Nat}(hi:i<l.length)(h:Rise q6v okN (l.take i))(ho:okN l[i])(hc:0<i->∀ h:i-1<l.length,q6v l[i-1] l[i]<0):Rise q6v okN (l.take (i+1)):=by
 rw [List.take_succ_eq_append_getElem hi]
 refine⟨fun x hx=>?_,List.pairwise_append.2 ⟨h.2,List.pairwise_singleton ..,fun a ha b hb=>?_⟩⟩
 ·rcases List.mem_append.1 hx with hx | hx
  ·exact h.1 x hx
  ·rw [List.mem_singleton.1 hx]; exact ho
 ·rw [List.mem_singleton.1 hb]
  obtain⟨k,hk,rfl⟩:=List.mem_iff_getElem.1 ha
  rw [List.length_take] at hk
  rw [List.getElem_take]
  have hl:=hc (by omega) (by omega)
  by_cases e:k=i-1
  ·subst e; exact hl
  ·have hp:=List.pairwise_iff_getElem.1 h.2 k (i-1) (by rw [List.length_take]; omega) (by rw [List.length_take]; omega) (by omega)
   rw [List.getElem_take,List.getElem_take] at hp
   exact cmpN_ord.trans _ _ _ hp hl
theorem j56 {l:List Note}(h:Rise q6v okN l){i:Nat}(h0:0<i)(hi:i<l.length):q6v (l[i-1]'(by omega)) l[i]<0:=
 List.pairwise_iff_getElem.1 h.2 (i-1) i (by omega) hi (by omega)
theorem k0d (l:List Note)(hl:l.length<=100000)(r:Bool)(hr:r=true ↔ Rise q6v okN l/\l.length<=4096)(st:q5c):Rets P F.q3o [.agg [Note.lst false l]] st (.bool r):=by
 have hno:Hid (¬ Rise q6v okN l->r=false):=⟨fun h=>by
  rw [<-Bool.not_eq_true]
  exact fun h2=>h (hr.1 h2).1⟩
 have hye:Hid (Rise q6v okN l->r=decide ((l.length:Int)<=4096)):=⟨fun h=>by
  rw [Bool.eq_iff_iff,hr,decide_eq_true_eq]
  exact⟨fun h2=>by omega,fun h2=>⟨h,by omega⟩⟩⟩
 clear hr
 refine H.q3o.view q5l rfl rfl ?_
 repeat' (first 
  | (with_reducible refine Fresh.intro fun b hb=>?_) <;> (try simp -dsimp -implicitDefEqProofs [*] at hb)
  | (simp -dsimp -implicitDefEqProofs [*]))
 refine q5e (fun i:Nat=>[(1,.ptr b 0),(2,.bool false),(6,Note.lst false l),(7,.int l.length),(8,.int i)]) (fun _=>(b,.arr T.apiPeer [Note.lst false l])::st) (fun i=>i<=l.length/\Hid (Rise q6v okN (l.take i))) (fun i=>l.length-i) 0 ⟨Nat.zero_le _,⟨.nil⟩⟩ (by simp) (.refl _) ?_
 rintro i ⟨hi,hI⟩
 by_cases hil:i<l.length
 case neg=>
  obtain rfl:i=l.length:=by omega
  have hR:=hI.out
  rw [List.take_length] at hR
  have e:=hye.out hR
  rw [e]
  clear hR e hye hno hI
  repeat' (simp -dsimp -implicitDefEqProofs [*])
  all_goals exact RetView.drop (st':=st) q5m ⟨rfl,rfl⟩
 have hwi:=q5f (n:=i) (by omega)
 have hs:=Note.row_sub l i hil
 have hrl:=Note.row_len l
 have f:=fun st=>k1w l[i] st
 cases hf:q5s l[i] with
 | false=>
  rw [hf] at f
  have e:=hno.out fun h=>by
   have:=h.1 _ (List.getElem_mem hil)
   unfold okN at this
   rw [hf] at this
   cases this
  subst e
  clear hye hno hI hf
  generalize l[i]=x at *
  repeat' (first 
   | (with_reducible refine Fresh.intro fun b hb=>?_) <;> (try simp -dsimp -implicitDefEqProofs [*] at hb)
   | (with_reducible refine Rets.xcall (f _) ?_)
   | (with_reducible refine DrawLate.intro [] ?_)
   | (simp -dsimp -implicitDefEqProofs [*]))
  all_goals exact RetView.drop (st':=st) q5m ⟨rfl,rfl⟩
 | true=>
  rw [hf] at f
  by_cases h0:i=0
  ·subst h0
   have e:=Hid.mk (k5y hil hI.out hf (fun h=>absurd h (Nat.lt_irrefl 0)))
   clear hye hf hI
   have hw0:IntKind.i64.wrap 1=1:=rfl
   generalize l[0]=x at *
   repeat' (first 
    | (with_reducible refine Fresh.intro fun b hb=>?_) <;> (try simp -dsimp -implicitDefEqProofs [*] at hb)
    | (with_reducible refine Rets.xcall (f _) ?_)
    | (with_reducible refine DrawLate.intro [] ?_)
    | (simp -dsimp -implicitDefEqProofs [*]))
   all_goals exact Next.intro 1 ⟨by omega,e⟩ (by omega) (by simp) q5m
  ·have hi1:i-1<l.length:=by omega
   have hw1:IntKind.i64.wrap ((i:Int)-1)=((i-1:Nat):Int):=by rw [q5i (by omega) (by omega)]; omega
   have hp:0<i:=by omega
   have hs1:=Note.row_sub l (i-1) hi1
   have hf1:q5s l[i-1]=true:=hI.out.1 _ (by
    have h2:i-1<(l.take i).length:=by rw [List.length_take]; omega
    have:=List.getElem_mem h2
    rwa [List.getElem_take] at this)
   have c:=fun st=>k26 l[i-1] l[i] hf1 hf st
   by_cases hc:q6v l[i-1] l[i]<0
   ·have e:=Hid.mk (k5y hil hI.out hf (fun _ _=>hc))
    have hc2:¬ 0<=q6v l[i-1] l[i]:=by omega
    clear hye hno hf hf1 hI hc
    generalize q6v l[i-1] l[i]=n at *
    generalize l[i-1]=y at *
    generalize l[i]=x at *
    repeat' (first 
     | (with_reducible refine Fresh.intro fun b hb=>?_) <;> (try simp -dsimp -implicitDefEqProofs [*] at hb)
     | (with_reducible refine Rets.xcall (f _) ?_)
     | (with_reducible refine Rets.xcall (c _) ?_)
     | (with_reducible refine DrawLate.intro [] ?_)
     | (simp -dsimp -implicitDefEqProofs [*]))
    all_goals exact Next.intro (i+1) ⟨by omega,e⟩ (by omega) (by simp) q5m
   ·have e:=hno.out fun h=>hc (j56 h (by omega) hil)
    have hc2:0<=q6v l[i-1] l[i]:=by omega
    subst e
    clear hye hno hf hf1 hI hc
    generalize q6v l[i-1] l[i]=n at *
    generalize l[i-1]=y at *
    generalize l[i]=x at *
    repeat' (first 
     | (with_reducible refine Fresh.intro fun b hb=>?_) <;> (try simp -dsimp -implicitDefEqProofs [*] at hb)
     | (with_reducible refine Rets.xcall (f _) ?_)
     | (with_reducible refine Rets.xcall (c _) ?_)
     | (with_reducible refine DrawLate.intro [] ?_)
     | (simp -dsimp -implicitDefEqProofs [*]))
    all_goals exact RetView.drop (st':=st) q5m ⟨rfl,rfl⟩
end Go.Proofs.YtmlmoaimjifpgaaGreat
