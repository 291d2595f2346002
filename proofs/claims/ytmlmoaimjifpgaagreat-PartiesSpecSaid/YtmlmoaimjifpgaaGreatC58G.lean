/- Tagged digests by the program. -/
import Derived.Test.YtmlmoaimjifpgaaGreatS58A
import Derived.Test.YtmlmoaimjifpgaaGreatLCd
import Derived.Test.YtmlmoaimjifpgaaGreatLWd
namespace Go.Proofs.YtmlmoaimjifpgaaGreat
open Go.Pv
set_option maxRecDepth 100000
set_option maxHeartbeats 4000000
theorem q8z {α:Type}{row:List α->List PV}{k:Nat}(hrl:∀ l,(row l).length=l.length*k)(hra:∀ l m,row (l++m)=row l++row m){T:TypeId}{bytes:Nat}{st:q5f}{K:PV->q5f->Prop}
  (o:Option (Acc α)) (ho:accOk row k st o) (xs:List α) {new:List PV} {m:Nat} (hnew:row xs=new) (hm:xs.length=m) (hsz:((q50 o).length+m)*bytes<=140737488355328)
  (h:∀ o':Option (Acc α),accOk row k st o'->q50 o'=q50 o++xs->K (q7s o') (q6e T st o')):q67 T bytes k (q7s o) new m (q6e T st o) K:=by
 by_cases h0:m=0
 ·have hx:xs=[]:=List.length_eq_zero_iff.1 (hm.trans h0)
  subst hx
  cases o with
  | none=>
   subst h0
   simp only [k1l,q8w]
   rw [k4p]
   exact⟨fun _=>h none trivial rfl,fun h=>absurd rfl h⟩
  | some a=>
   obtain⟨ha,hb⟩:=ho
   refine q8l hrl hra ha (by simp) [] hnew hm hsz fun a' ha' hl' hb'=>?_
   have e:k2l a.b (q6e T st (some a))=st:=by simp [q7x hb]
   rw [e] at hb' ⊢
   exact h (some a') ⟨ha',hb'⟩ hl'
 ·exact q9t hrl hra o ho xs hnew hm (by omega) hsz h
open Go.Pv
set_option maxRecDepth 100000
set_option maxHeartbeats 4000000
def j02 (f:Nat->PV)(k:Nat):Nat->List PV
 | 0=>[]
 | n+1=>f k::j02 f (k+1) n
theorem z6g (b k:Nat)(st:q5f):Rets P F.q4f [.ptr b k] st (.agg (j02 (.ptr b) k 9)):=by
 refine H.q4f.view q5n rfl rfl ?_
 repeat' (first 
  | (with_reducible refine Fresh.intro fun b hb=>?_) <;> (try simp -dsimp -implicitDefEqProofs [*] at hb)
  | (simp -dsimp -implicitDefEqProofs [*]))
 exact RetView.drop (st':=st) q5o ⟨rfl,rfl⟩
theorem q6v {α:Type}{L:List α}{i:Nat}{x:α}(h:L[i]?=some x)(h2:i<L.length):L[i]'h2=x:=by
 rw [List.getElem?_eq_getElem h2] at h
 exact Option.some.inj h
open Go.Pv
set_option maxRecDepth 100000
set_option maxHeartbeats 8000000
def v1y (st:q5f)(e:PEnd)(s:q5f):Prop:=∃ o:Option (Acc PV),accOk (fun l=>l) 1 st o/\q50 o=[]/\e=.ret (q7s o)/\s=q6e T.int_2 st o
def y98 (l:List Unit):List PV:=List.replicate l.length (.val (.pointer none))
theorem j2m (n:Nat)(hn:n<=100000)(st:q5f):PCalls P F.q2t [.nil,.int (n:Int)] st (v1y st):=by
 refine H.q2t.view q5n rfl rfl ?_
 have hw:IntKind.i64.wrap (n:Int)=n:=j78 (by omega)
 have hw0:IntKind.i64.wrap 0=0:=rfl
 by_cases h0:n=0
 ·subst h0
  repeat' (simp -dsimp -implicitDefEqProofs [*])
  exact .same ⟨none,trivial,rfl,rfl,rfl⟩
 ·have h0':(0:Int)<n:=by omega
  repeat' (first 
   | (with_reducible refine And.intro (fun h=>?_) (fun h=>?_)) <;> (try (exfalso; omega))
   | ((with_reducible refine q5v ?_ fun hk=>?_); omega)
   | (simp -dsimp -implicitDefEqProofs [-q5g, *]))
  refine q9t (row:=y98) (k:=1) (T:=T.int_2) (st:=st) (by simp [y98]) (by intro l m; simp [y98]) none trivial (List.replicate n ()) (by simp [y98,List.flatten_replicate_singleton]) (by simp) (by omega) (by simp; omega) fun o' h1 h2=>?_
  cases o' with
  | none=>exact absurd (congrArg List.length h2) (by simpa using fun h=>h0 h.symm)
  | some a=>
   simp only [q97] at h1
   simp only [q7k,q8x,List.nil_append] at h2
   obtain⟨⟨a1,a2,a3,a4⟩,a5⟩:=h1
   have hl:a.l.length=n:=by rw [h2]; simp
   rw [hl] at a1 a4
   simp only [q7b,q52,hl]
   clear h2 hl
   obtain⟨L,b,cap,R⟩:=a
   simp only at a1 a2 a3 a4 a5
   repeat' (simp -dsimp -implicitDefEqProofs [*])
   exact .same ⟨some ⟨[],b,cap,R⟩,⟨⟨by simp,a2,a3,by simp⟩,a5⟩,rfl,rfl,rfl⟩
def llP (ls:List (Bool × List PV)):List PV:=ls.map fun q=>.list q.1 q.2 q.2.length
def j03 (ls:List (Bool × List PV))(i:Nat):Nat:=((ls.take i).map fun q=>q.2.length).sum
def j8n (ls:List (Bool × List PV))(i:Nat):List PV:=(ls.take i).flatMap fun q=>q.2
theorem z6h {ls:List (Bool × List PV)}{i:Nat}(h:i<ls.length):j03 ls (i+1)=j03 ls i+ls[i].2.length:=by
 unfold j03
 rw [List.take_succ_eq_append_getElem h,List.map_append,List.sum_append]
 simp
theorem j5g {ls:List (Bool × List PV)}{i:Nat}(h:i<ls.length):j8n ls (i+1)=j8n ls i++ls[i].2:=by
 unfold j8n
 rw [List.take_succ_eq_append_getElem h,List.flatMap_append]
 simp
theorem j04 (ls:List (Bool × List PV))(i:Nat):(j8n ls i).length=j03 ls i:=by
 unfold j8n j03
 rw [List.length_flatMap]
theorem j5h {ls:List (Bool × List PV)}{i:Nat}(h:i<ls.length):(llP ls)[i]?=some (.list ls[i].1 ls[i].2 ls[i].2.length):=by simp [llP,h]
@[simp] theorem v1z (ls:List (Bool × List PV)):(llP ls).length=ls.length:=by simp [llP]
theorem z6i (t:Bool)(ls:List (Bool × List PV))(hl:ls.length<=10)(hk:∀ q ∈ ls,q.2.length<=100)(st:q5f):Rets P F.q1g [.list t (llP ls) ls.length] st (.list false (j8n ls ls.length) (j03 ls ls.length)):=by
 have hT:∀ i,i<=ls.length->j03 ls i<=i*100:=fun i=>by
  induction i with
  | zero=>intro _; simp [j03]
  | succ i ih=>
   intro hi
   rw [z6h (by omega)]
   have:=ih (by omega)
   have:=hk _ (List.getElem_mem (show i<ls.length by omega))
   omega
 refine H.q1g.view q5n rfl rfl ?_
 repeat' (simp -dsimp -implicitDefEqProofs [*])
 refine q5h (fun i:Nat=>[(0,.list t (llP ls) ls.length),(3,.int (j03 ls i:Nat)),(9,.list t (llP ls) ls.length),(10,.int ls.length),(11,.int (i:Nat))]) (fun _=>st) (fun i=>i<=ls.length) (fun i=>ls.length-i) 0 (Nat.zero_le _) (by simp [j03]) (.refl _) ?_
 intro i hi
 by_cases hil:i<ls.length
 ·have hwi:=q5i (n:=i) (by omega)
  have g:=j5h hil
  have G:=q6v g
  have hs:=z6h hil
  have h1:=hT i hi
  have h2:=hk _ (List.getElem_mem hil)
  obtain⟨q,hq⟩:∃ q,q=ls[i]:=⟨_,rfl⟩
  rw [<-hq] at g hs h2
  simp only [<-hq] at G
  obtain⟨tq,Q⟩:=q
  simp only at g hs h2 G
  have hw:IntKind.i64.wrap ((j03 ls i:Int)+Q.length)=(j03 ls i:Int)+Q.length:=q5l (by omega) (by omega)
  have hp:¬ (j03 ls i:Int)+Q.length<0:=by omega
  clear hq hk hT
  repeat' (simp -dsimp -implicitDefEqProofs [*])
  exact Next.intro (i+1) (by omega) (by omega) (by simp [hs]) q5o
 obtain rfl:i=ls.length:=by omega
 have hg:=fun st=>j2m (j03 ls ls.length) (by have:=hT ls.length (Nat.le_refl _); omega) st
 repeat' (simp -dsimp -implicitDefEqProofs [*])
 refine q5k (hg _) ?_
 rintro e s ⟨o,ho,hol,rfl,rfl⟩
 rw [q5x]
 clear hg
 repeat' (simp -dsimp -implicitDefEqProofs [-q5g, *])
 refine q5h (fun y:Nat × Option (Acc PV)=>[(6,q7s y.2),(25,.list t (llP ls) ls.length),(26,.int ls.length),(27,.int (y.1:Nat))]) (fun y=>q6e T.int_2 st y.2) (fun y=>y.1<=ls.length/\accOk (fun l=>l) 1 st y.2/\Hid (q50 y.2=j8n ls y.1)) (fun y=>ls.length-y.1) (0,o) ⟨Nat.zero_le _,ho,⟨hol⟩⟩ (by simp) (.refl _) ?_
 clear hol ho
 clear o
 rintro⟨i,o⟩ ⟨hi,ho,hol⟩
 replace hi:i<=ls.length:=hi
 replace ho:accOk (fun l=>l) 1 st o:=ho
 replace hol:Hid (q50 o=j8n ls i):=hol
 simp only
 by_cases hil:i<ls.length
 case neg=>
  obtain rfl:i=ls.length:=by omega
  clear hk hT
  repeat' (simp -dsimp -implicitDefEqProofs [-q5g, *])
  exact RetView.accP1 (row:=fun l=>l) rfl ho (.same ⟨by rw [hol.out,j04],rfl⟩)
 have hwi:=q5i (n:=i) (by omega)
 have g:=j5h hil
 have G:=q6v g
 have hs:=Hid.mk (j5g hil)
 have hs2:=Hid.mk (j04 ls i)
 have h1:=hT i hi
 have h2:=hk _ (List.getElem_mem hil)
 obtain⟨q,hq⟩:∃ q,q=ls[i]:=⟨_,rfl⟩
 rw [<-hq] at g hs h2
 simp only [<-hq] at G
 obtain⟨tq,Q⟩:=q
 simp only at g hs h2 G
 clear hq hk hT
 repeat' (simp -dsimp -implicitDefEqProofs [-q5g, *])
 refine q8z (row:=fun l=>l) (k:=1) (by simp) (by simp) o ho Q rfl rfl (by rw [hol.out,hs2.out]; omega) fun o' ho' hl'=>?_
 have kl':Hid (q50 o'=j8n ls (i+1)):=⟨by rw [hl',hol.out,hs.out]⟩
 clear hl'
 repeat' (simp -dsimp -implicitDefEqProofs [-q5g, *])
 exact Next.intro (i+1,o') ⟨by simp only; omega,ho',kl'⟩ (by simp only; omega) (by simp) q5o
open Go.Pv
set_option maxRecDepth 100000
set_option maxHeartbeats 8000000
def v10 (f:Nat->PV):List (Bool × List PV):=[(true,[f 0]),(false,[f 1,f 2,f 3,f 4,f 5,f 6,f 7,f 8,f 9]),(true,[f 10,f 11,f 12,f 13,f 14]),(false,[f 15,f 16,f 17,f 18,f 19,f 20,f 21,f 22,f 23])]
theorem z6j (f:Nat->PV)(st:q5f):Rets P F.q1g [.list true [.list true [f 0] 1,.list false [f 1,f 2,f 3,f 4,f 5,f 6,f 7,f 8,f 9] 9,.list true [f 10,f 11,f 12,f 13,f 14] 5,.list false [f 15,f 16,f 17,f 18,f 19,f 20,f 21,f 22,f 23] 9] 4] st (.list false (j02 f 0 24) 24):=
 z6i true (v10 f) (by simp [v10]) (by simp [v10]) st
theorem j5i (f:Nat->PV)(a c:Nat)(st:q5f)(ha:q54 st a)(hc:q54 ((a,.arr T.t9int [f 1,f 2,f 3,f 4,f 5,f 6,f 7,f 8,f 9])::st) c) :
  PCalls P F.q1g [.list true [.list true [f 0] 1,.own a 0 9 9,.list true [f 10,f 11,f 12,f 13,f 14] 5,.own c 0 9 9] 4] ((c,.arr T.t9int [f 15,f 16,f 17,f 18,f 19,f 20,f 21,f 22,f 23])::(a,.arr T.t9int [f 1,f 2,f 3,f 4,f 5,f 6,f 7,f 8,f 9])::st) fun e s=>e=.ret (.list false (j02 f 0 24) 24)/\s=st:=
 PCalls.frz hc (.refl _) (.cons (.list true 4 (.cons (.refl _) (.cons (.refl _) (.cons (.refl _) (.cons (.own T.t9int [f 15,f 16,f 17,f 18,f 19,f 20,f 21,f 22,f 23] 0 9 9 1 rfl (by decide) (by decide)) .nil))))) .nil)
  (PCalls.frz ha (.refl _) (.cons (.list true 4 (.cons (.refl _) (.cons (.own T.t9int [f 1,f 2,f 3,f 4,f 5,f 6,f 7,f 8,f 9] 0 9 9 1 rfl (by decide) (by decide)) (.cons (.refl _) (.cons (.refl _) .nil))))) .nil) (z6j f st))
theorem j5j (f:Nat->PV)(a c:Nat)(st:q5f)(hc:q54 st c)(ha:q54 ((c,.arr T.t9int [f 15,f 16,f 17,f 18,f 19,f 20,f 21,f 22,f 23])::st) a) :
  PCalls P F.q1g [.list true [.list true [f 0] 1,.own a 0 9 9,.list true [f 10,f 11,f 12,f 13,f 14] 5,.own c 0 9 9] 4] ((a,.arr T.t9int [f 1,f 2,f 3,f 4,f 5,f 6,f 7,f 8,f 9])::(c,.arr T.t9int [f 15,f 16,f 17,f 18,f 19,f 20,f 21,f 22,f 23])::st) fun e s=>e=.ret (.list false (j02 f 0 24) 24)/\s=st:=
 PCalls.frz ha (.refl _) (.cons (.list true 4 (.cons (.refl _) (.cons (.own T.t9int [f 1,f 2,f 3,f 4,f 5,f 6,f 7,f 8,f 9] 0 9 9 1 rfl (by decide) (by decide)) (.cons (.refl _) (.cons (.refl _) .nil))))) .nil)
  (PCalls.frz hc (.refl _) (.cons (.list true 4 (.cons (.refl _) (.cons (.refl _) (.cons (.refl _) (.cons (.own T.t9int [f 15,f 16,f 17,f 18,f 19,f 20,f 21,f 22,f 23] 0 9 9 1 rfl (by decide) (by decide)) .nil))))) .nil) (z6j f st))
theorem q99 (q:Nat)(st:q5f):Rets P F.q3v [.ptr q 0] st (.list false (j02 (.ptr q) 0 24) 24):=by
 have ev1:=fun st=>z6g q 1 st
 have ev2:=fun st=>z6g q 15 st
 have o1:=fun a c st ha hc=>j5i (.ptr q) a c st ha hc
 have o2:=fun a c st ha hc=>j5j (.ptr q) a c st ha hc
 obtain⟨R,hR⟩:∃ R,R=j02 (.ptr q) 0 24:=⟨_,rfl⟩
 rw [<-hR]
 simp only [<-hR] at o1 o2
 clear hR
 simp only [j02] at ev1 ev2
 refine H.q3v.view q5n rfl rfl ?_
 repeat' (simp -dsimp -implicitDefEqProofs [*])
 refine DrawFork.by (fun _=>True) trivial ?_
 repeat' (first 
  | (with_reducible refine q56 (fun _=>ev1 _) ?_)
  | (with_reducible refine q56 (fun _=>ev2 _) ?_)
  | (simp -dsimp -implicitDefEqProofs [*]))
 clear ev1 ev2
 refine⟨?_, ?_⟩
 ·repeat' (first 
   | (with_reducible refine Fresh.intro fun b hb=>?_) <;> (try simp -dsimp -implicitDefEqProofs [*] at hb)
   | (simp -dsimp -implicitDefEqProofs [*]))
  refine DrawLate.by (fun _=>True) trivial ?_
  repeat' (simp -dsimp -implicitDefEqProofs [*])
  rename_i a ha
  refine q5k (o1 a b st ha hb) ?_
  clear o1 o2
  rintro e s ⟨rfl,rfl⟩
  rw [q5x]
  repeat' (simp -dsimp -implicitDefEqProofs [*])
  exact .same ⟨rfl,rfl⟩
 ·repeat' (first 
   | (with_reducible refine Fresh.intro fun b hb=>?_) <;> (try simp -dsimp -implicitDefEqProofs [*] at hb)
   | (simp -dsimp -implicitDefEqProofs [*]))
  refine DrawLate.by (fun _=>True) trivial ?_
  repeat' (simp -dsimp -implicitDefEqProofs [*])
  rename_i a ha
  refine q5k (o2 b a st ha hb) ?_
  clear o1 o2
  rintro e s ⟨rfl,rfl⟩
  rw [q5x]
  repeat' (simp -dsimp -implicitDefEqProofs [*])
  exact .same ⟨rfl,rfl⟩
open Go.Pv Go.Pv.Cd
set_option maxRecDepth 100000
set_option maxHeartbeats 4000000
abbrev rdO (L:List (BitVec 8)):PObj:=.arr T.q5b [q53 false L]
def q80:PV:=.iface T.apiErrno (.int 10)
def PanD (P:Program)(g:FuncId)(ps:List PV)(st:q5f)(p:PV)(st':q5f):Prop:=PCalls P g ps st fun e s=>e=.panic p/\s=st'
theorem PanD.xcall {P:Program}{g:FuncId}{ps:List PV}{st st':q5f}{p:PV}(h:PanD P g ps st p st'){Q:PEnd->q5f->Prop}(hk:Q (.panic p) st'):xcall P g ps st Q:=
 PCalls.mono h fun e s ⟨h1,h2⟩=>by subst h1; subst h2; exact hk
theorem k4z (b:Nat)(st:q5f):Rets P F.q04 [.ptr b 0,.bool true] st (.tuple []):=by
 refine H.q04.pure q5n rfl rfl ?_
 repeat' (simp -dsimp -implicitDefEqProofs [*])
theorem k40 (b:Nat)(st:q5f):Panics P F.q04 [.ptr b 0,.bool false] st q80:=by
 refine H.q04.panics q5n rfl rfl ?_
 repeat' (simp -dsimp -implicitDefEqProofs [q80, *])
theorem j5k (L:List (BitVec 8))(n:Nat)(h:n<=L.length)(b:Nat)(st:q5f)(_hb:q54 st b):Does P F.q00 [.ptr b 0,.int (n:Int)] ((b,rdO L)::st) (.list true (q5p (L.take n)) n) ((b,rdO (L.drop n))::st):=by
 have h1:(n:Int)<=L.length:=by omega
 refine H.q00.view q5n rfl rfl ?_
 repeat' (first 
  | (with_reducible refine Rets.xcall (k4z _ _) ?_)
  | (simp -dsimp -implicitDefEqProofs [*]))
 exact .same ⟨by rw [k24],by rw [k25,<-List.length_drop]⟩
theorem y2t (L:List (BitVec 8))(n:Nat)(h:¬ n<=L.length)(b:Nat)(st:q5f)(hb:q54 st b):PanD P F.q00 [.ptr b 0,.int (n:Int)] ((b,rdO L)::st) q80 st:=by
 have h1:¬ (n:Int)<=L.length:=by omega
 refine H.q00.view q5n rfl rfl ?_
 repeat' (first 
  | (with_reducible refine Panics.xcall (k40 _ _) ?_)
  | (simp -dsimp -implicitDefEqProofs [*]))
 exact RetView.drop (st':=st) q5o ⟨rfl,rfl⟩
theorem k3y (c:BitVec 8)(r:List (BitVec 8))(b:Nat)(st:q5f)(hb:q54 st b):Does P F.q00 [.ptr b 0,.int 1] ((b,rdO (c::r))::st) (.list true [bv c] 1) ((b,rdO r)::st):=
 j5k (c::r) 1 (by simp) b st hb
theorem j05 (b:Nat)(st:q5f)(hb:q54 st b):PanD P F.q00 [.ptr b 0,.int 1] ((b,rdO [])::st) q80 st:=
 y2t [] 1 (by simp) b st hb
open Go.Pv Go.Pv.Cd
set_option maxRecDepth 100000
set_option maxHeartbeats 4000000
def NumP (L:List (BitVec 8))(b:Nat)(st:q5f)(e:PEnd)(s:q5f):Prop:=match k05 0 L with
 | some (u,r)=>e=.ret (.val (.int .u64 (u:Nat)))/\s=(b,rdO r)::st
 | none=>e=.panic q80/\s=st
theorem NumP.no {L:List (BitVec 8)}{b:Nat}{st:q5f}(h:k05 0 L=none):NumP L b st (.panic q80) st:=by
 unfold NumP
 rw [h]
 exact⟨rfl,rfl⟩
theorem NumP.yes {L r:List (BitVec 8)}{b u:Nat}{st:q5f}(h:k05 0 L=some (u,r)):NumP L b st (.ret (.val (.int .u64 (u:Nat)))) ((b,rdO r)::st):=by
 unfold NumP
 rw [h]
 exact⟨rfl,rfl⟩
structure NumI (L:List (BitVec 8))(i u:Nat)(R:List (BitVec 8)):Prop where
 dig:i<=9
 low:u<128 ^ i
 len:R.length<=L.length
 num:k05 0 L=match k05 i R with
  | some (v,r)=>some (u+128 ^ i*v,r)
  | none=>none
theorem NumI.zero (L:List (BitVec 8)):NumI L 0 0 L:=⟨by omega,by decide,Nat.le_refl _,by
 cases k05 0 L with
 | none=>rfl
 | some q=>simp⟩
theorem NumI.nil {L:List (BitVec 8)}{i u:Nat}(h:NumI L i u []):k05 0 L=none:=by rw [h.num]; rfl
theorem NumI.bad {L r:List (BitVec 8)}{i u:Nat}{c:BitVec 8}(h:NumI L i u (c::r))(hc:¬ ((i=0\/c.toNat ≠ 0)/\(i<9\/c.toNat<=1))):k05 0 L=none:=by
 rw [h.num,k05,if_neg hc]
theorem NumI.last {L r:List (BitVec 8)}{i u:Nat}{c:BitVec 8}(h:NumI L i u (c::r))(hc:(i=0\/c.toNat ≠ 0)/\(i<9\/c.toNat<=1))(hl:c.toNat<128):k05 0 L=some (u+c.toNat % 128*128 ^ i,r):=by
 rw [h.num,k05,if_pos hc,if_pos hl,Nat.mod_eq_of_lt hl,Nat.mul_comm]
theorem NumI.next {L r:List (BitVec 8)}{i u:Nat}{c:BitVec 8}(h:NumI L i u (c::r))(hc:(i=0\/c.toNat ≠ 0)/\(i<9\/c.toNat<=1))(hl:¬ c.toNat<128):NumI L (i+1) (u+c.toNat % 128*128 ^ i) r:=by
 have h0:=h.dig
 have h1:=h.low
 have h2:=h.len
 have h3:c.toNat % 128<128:=Nat.mod_lt _ (by decide)
 have e1:128 ^ (i+1)=128*128 ^ i:=by rw [Nat.pow_succ,Nat.mul_comm]
 refine⟨by omega, ?_,by simp only [List.length_cons] at h2; omega, ?_⟩
 ·have:c.toNat % 128*128 ^ i<=127*128 ^ i:=Nat.mul_le_mul_right _ (by omega)
  rw [e1]
  omega
 ·rw [h.num,k05,if_pos hc,if_neg hl]
  cases k05 (i+1) r with
  | none=>rfl
  | some q=>
   obtain⟨v,r'⟩:=q
   simp only
   congr 2
   rw [e1,Nat.mul_add,<-Nat.mul_assoc,Nat.mul_comm (128 ^ i) 128,Nat.mul_comm (c.toNat % 128)]
   omega
theorem y7w:∀ c,c<256->c &&& 127=c % 128:=by decide
theorem j8o {u i c:Nat}(hi:i<=9)(hu:u<128 ^ i)(hc:c<256)(h9:i<9\/c<=1){k:Int}(hk:k=7*(i:Int)) :
  IntKind.u64.wrap ((u % 2 ^ IntKind.u64.bits ||| (IntKind.u64.wrap (IntKind.u64.wrap (IntKind.u8.wrap ((c % 2 ^ IntKind.u8.bits &&& 127 % 2 ^ IntKind.u8.bits:Nat):Int))*2 ^ min k.toNat IntKind.u64.bits) % 2 ^ IntKind.u64.bits).toNat:Nat):Int)=((u+c % 128*128 ^ i:Nat):Int):=by
 have b8:IntKind.u8.bits=8:=rfl
 have b64:IntKind.u64.bits=64:=rfl
 have w8:∀ n:Nat,n<256->IntKind.u8.wrap (n:Int)=n:=fun n h=>by simp [IntKind.wrap,IntKind.bits,IntKind.signed]; omega
 have w64:∀ n:Nat,n<18446744073709551616->IntKind.u64.wrap (n:Int)=n:=fun n h=>by simp [IntKind.wrap,IntKind.bits,IntKind.signed]; omega
 have e1:c % 2 ^ 8 &&& 127 % 2 ^ 8=c % 128:=by
  rw [Nat.mod_eq_of_lt (show c<2 ^ 8 by omega)]
  exact y7w c hc
 have h1:c % 128<128:=Nat.mod_lt _ (by decide)
 have e2:min k.toNat 64=7*i:=by omega
 have e3:(2:Nat) ^ (7*i)=128 ^ i:=(j43 i).symm
 have p8:128 ^ i<=128 ^ 9:=Nat.pow_le_pow_right (by decide) hi
 have e9:(128:Nat) ^ 9=9223372036854775808:=by decide
 have hy:u+c % 128*128 ^ i<18446744073709551616:=by
  rcases h9 with h | h
  ·have q1:128 ^ i<=128 ^ 8:=Nat.pow_le_pow_right (by decide) (by omega)
   have q2:c % 128*128 ^ i<=127*128 ^ 8:=Nat.mul_le_mul (by omega) q1
   have q3:(127:Nat)*128 ^ 8=9151314442816847872:=by decide
   omega
  ·have q2:c % 128*128 ^ i<=1*128 ^ 9:=Nat.mul_le_mul (by omega) p8
   omega
 have cp:(2:Int) ^ (7*i)=((128 ^ i:Nat):Int):=by rw [<-e3]; exact (Int.natCast_pow 2 (7*i)).symm
 rw [b8,b64,e1,e2,w8 (c % 128) (by omega),w64 (c % 128) (by omega),cp,<-Int.natCast_mul,w64 (c % 128*128 ^ i) (by omega)]
 have e4:(((c % 128*128 ^ i:Nat):Int) % 2 ^ 64).toNat=c % 128*128 ^ i:=by omega
 rw [e4,Nat.mod_eq_of_lt (by omega)]
 have e5:u ||| c % 128*128 ^ i=u+c % 128*128 ^ i:=by
  rw [Nat.or_comm,Nat.mul_comm,<-e3,<-Nat.two_pow_add_eq_or_of_lt (by rw [e3]; exact hu),Nat.add_comm]
 rw [e5,w64 _ hy]
theorem k9n (L:List (BitVec 8))(hL:L.length<=100000)(b:Nat)(st:q5f)(hb:q54 st b):PCalls P F.q2h [.ptr b 0] ((b,rdO L)::st) (NumP L b st):=by
 refine H.q2h.view q5n rfl rfl ?_
 have h0:=Hid.mk (NumI.zero L)
 repeat' (simp -dsimp -implicitDefEqProofs [*])
 refine q5h (fun y:Nat × Nat × List (BitVec 8)=>[(0,.ptr b 0),(2,.val (.int .u64 (y.2.1:Nat))),(3,.int y.1)]) (fun y=>(b,rdO y.2.2)::st) (fun y=>Hid (NumI L y.1 y.2.1 y.2.2)) (fun y=>10-y.1) (0,0,L) h0 (by simp) (.refl _) ?_
 clear h0
 rintro⟨i,u,R⟩ hI
 replace hI:Hid (NumI L i u R):=hI
 simp only
 have hRl:R.length<=100000:=Nat.le_trans hI.out.len hL
 cases R with
 | nil=>
  have e:=Hid.mk hI.out.nil
  clear hI
  repeat' (simp -dsimp -implicitDefEqProofs [*])
  refine PanD.xcall (j05 _ _ hb) ?_
  repeat' (simp -dsimp -implicitDefEqProofs [*])
  exact .same (NumP.no e.out)
 | cons c r=>
  have hbv:bv c=.val (.int .u8 (c.toNat:Nat)):=rfl
  have hcl:=c.isLt
  by_cases ok:(i=0\/c.toNat ≠ 0)/\(i<9\/c.toNat<=1)
  case neg=>
   have e:=Hid.mk (hI.out.bad ok)
   clear hI
   by_cases h0:i=0
   ·exfalso; omega
   by_cases hc0:c.toNat=0
   ·repeat' (first 
     | (with_reducible refine Does.xcall (k3y _ _ _ _ hb) ?_)
     | (with_reducible refine Panics.xcall (k40 _ _) ?_)
     | (simp -dsimp -implicitDefEqProofs [*]))
    exact RetView.drop (st':=st) q5o (NumP.no e.out)
   ·have h9:¬ (i:Int)<9:=by omega
    have h91:(9:Int)<=i:=by omega
    have hc1:¬ (c.toNat:Int)<=1:=by omega
    repeat' (first 
     | (with_reducible refine Does.xcall (k3y _ _ _ _ hb) ?_)
     | (with_reducible refine Panics.xcall (k40 _ _) ?_)
     | (simp -dsimp -implicitDefEqProofs [*]))
    exact RetView.drop (st':=st) q5o (NumP.no e.out)
  have eL:=Hid.mk (hI.out.last ok)
  have eN:=Hid.mk (hI.out.next ok)
  have hd:=hI.out.dig
  have hu:=hI.out.low
  clear hI
  have hx:=fun k=>j8o (k:=k) hd hu hcl ok.2
  have e7:IntKind.i64.wrap (7*(i:Int))=7*(i:Int):=q5l (by omega) (by omega)
  have ei:=q5i (n:=i) (by omega)
  obtain⟨w,hw⟩:∃ w,w=u+c.toNat % 128*128 ^ i:=⟨_,rfl⟩
  rw [<-hw] at hx eL eN
  by_cases h0:i=0
  ·subst h0
   have e0:IntKind.i64.wrap 0=0:=rfl
   replace hx:IntKind.u64.wrap ((u % 2 ^ IntKind.u64.bits ||| (IntKind.u64.wrap (IntKind.u64.wrap (IntKind.u8.wrap ((c.toNat % 2 ^ IntKind.u8.bits &&& 127 % 2 ^ IntKind.u8.bits:Nat):Int))) % 2 ^ IntKind.u64.bits).toNat:Nat):Int)=(w:Int):=by
    have:=hx 0 rfl
    rwa [show (2:Int) ^ min (0:Int).toNat IntKind.u64.bits=1 from rfl,Int.mul_one] at this
   have e1:IntKind.i64.wrap 1=1:=rfl
   clear hw e7 ei
   repeat' (first 
    | (with_reducible refine Does.xcall (k3y _ _ _ _ hb) ?_)
    | (with_reducible refine Rets.xcall (k4z _ _) ?_)
    | (with_reducible refine And.intro (fun h=>?_) (fun h=>?_)) <;> (try (exfalso; omega))
    | (simp -dsimp -implicitDefEqProofs [*]))
   all_goals first | exact .same (NumP.yes (eL.out (by omega))) | exact Next.intro (1,w,r) ⟨(eN.out (by omega))⟩ (by simp only; omega) (by simp) (.refl _) | (exfalso; omega)
  have hc0:¬ c.toNat=0:=by omega
  replace hx:=hx _ rfl
  clear hw
  by_cases h9:(i:Int)<9
  ·repeat' (first 
    | (with_reducible refine Does.xcall (k3y _ _ _ _ hb) ?_)
    | (with_reducible refine Rets.xcall (k4z _ _) ?_)
    | (with_reducible refine And.intro (fun h=>?_) (fun h=>?_)) <;> (try (exfalso; omega))
    | ((with_reducible refine q5v ?_ fun hk=>?_); omega)
    | (simp -dsimp -implicitDefEqProofs [*]))
   all_goals first | exact .same (NumP.yes (eL.out (by omega))) | exact Next.intro (i+1,w,r) ⟨(eN.out (by omega))⟩ (by simp only; omega) (by simp) (.refl _) | (exfalso; omega)
  have h91:(9:Int)<=i:=by omega
  have hc1:(c.toNat:Int)<=1:=by omega
  repeat' (first 
   | (with_reducible refine Does.xcall (k3y _ _ _ _ hb) ?_)
   | (with_reducible refine Rets.xcall (k4z _ _) ?_)
   | (with_reducible refine And.intro (fun h=>?_) (fun h=>?_)) <;> (try (exfalso; omega))
   | ((with_reducible refine q5v ?_ fun hk=>?_); omega)
   | (simp -dsimp -implicitDefEqProofs [*]))
  all_goals first | exact .same (NumP.yes (eL.out (by omega))) | exact Next.intro (i+1,w,r) ⟨(eN.out (by omega))⟩ (by simp only; omega) (by simp) (.refl _) | (exfalso; omega)
open Go.Pv Go.Pv.Cd
set_option maxRecDepth 100000
set_option maxHeartbeats 4000000
theorem j8p (x:Nat)(h:x<18446744073709551616):x ^^^ 18446744073709551615=18446744073709551615-x:=by
 have h1:(BitVec.ofNat 64 x ^^^ BitVec.allOnes 64).toNat=18446744073709551615-x:=by
  rw [BitVec.xor_allOnes,BitVec.toNat_not,BitVec.toNat_ofNat,Nat.mod_eq_of_lt (by simpa using h)]
 rw [BitVec.toNat_xor,BitVec.toNat_allOnes,BitVec.toNat_ofNat,Nat.mod_eq_of_lt (by simpa using h)] at h1
 exact h1
theorem j8q (u:Nat)(hu:u<18446744073709551616):IntKind.i64.wrap (((IntKind.i64.wrap ((u:Int).fdiv (2 ^ min 1 IntKind.u64.bits)) % 2 ^ IntKind.i64.bits).toNat ^^^ (IntKind.i64.wrap (-IntKind.i64.wrap (IntKind.u64.wrap ((u % 2 ^ IntKind.u64.bits &&& 1 % 2 ^ IntKind.u64.bits:Nat):Int))) % 2 ^ IntKind.i64.bits).toNat:Nat):Int)=zag u:=by
 have b1:IntKind.u64.bits=64:=rfl
 have b2:IntKind.i64.bits=64:=rfl
 have e1:(u:Int).fdiv (2 ^ min 1 64)=((u / 2:Nat):Int):=by
  rw [show (2:Int) ^ min 1 64=2 from rfl,Int.fdiv_eq_ediv_of_nonneg _ (by decide)]
  exact (Int.natCast_ediv u 2).symm
 have e2:u % 2 ^ 64 &&& 1 % 2 ^ 64=u % 2:=by
  rw [Nat.mod_eq_of_lt (show u<2 ^ 64 by omega)]
  exact Nat.and_one_is_mod u
 have w64:∀ n:Nat,n<18446744073709551616->IntKind.u64.wrap (n:Int)=n:=fun n h=>by simp [IntKind.wrap,IntKind.bits,IntKind.signed]; omega
 rw [b1,b2,e1,e2,w64 (u % 2) (by omega),q5l (n:=((u / 2:Nat):Int)) (by omega) (by omega),q5l (n:=((u % 2:Nat):Int)) (by omega) (by omega),q5l (n:=-((u % 2:Nat):Int)) (by omega) (by omega)]
 have e3:(((u / 2:Nat):Int) % 2 ^ 64).toNat=u / 2:=by omega
 rw [e3]
 unfold zag
 by_cases h:u % 2=1
 ·rw [if_pos h,h]
  have e4:((-((1:Nat):Int)) % 2 ^ 64).toNat=18446744073709551615:=by decide
  rw [e4,j8p _ (by omega)]
  have:IntKind.i64.wrap ((18446744073709551615-u / 2:Nat):Int)=-((u / 2:Nat):Int)-1:=by
   have:=IntKind.i64.wrap
   unfold IntKind.wrap
   simp [IntKind.bits,IntKind.signed]
   omega
  exact this
 ·rw [if_neg h]
  have h0:u % 2=0:=by omega
  rw [h0]
  have e4:((-((0:Nat):Int)) % 2 ^ 64).toNat=0:=by decide
  rw [e4,Nat.xor_zero,q5l (by omega) (by omega)]
theorem z81 (u:Nat)(hu:u<18446744073709551616)(st:q5f):Rets P F.q4p [.val (.int .u64 (u:Nat))] st (.int (zag u)):=by
 refine H.q4p.pure q5n rfl rfl ?_
 repeat' (simp -dsimp -implicitDefEqProofs [*])
 exact j8q u hu
def y45 (L:List (BitVec 8)):Option (Nat × List (BitVec 8)):=match k05 0 L with
 | some (u,r)=>if u<=r.length then some (u,r) else none
 | none=>none
def j8r (L:List (BitVec 8))(b:Nat)(st:q5f)(e:PEnd)(s:q5f):Prop:=match y45 L with
 | some (u,r)=>e=.ret (.int (u:Nat))/\s=(b,rdO r)::st
 | none=>e=.panic q80/\s=st
theorem z82 (L:List (BitVec 8))(hL:L.length<=100000)(b:Nat)(st:q5f)(hb:q54 st b):PCalls P F.q2i [.ptr b 0] ((b,rdO L)::st) (j8r L b st):=by
 have n:=fun st hb=>k9n L hL b st hb
 refine H.q2i.view q5n rfl rfl ?_
 repeat' (simp -dsimp -implicitDefEqProofs [*])
 refine q5k (n _ hb) ?_
 clear n
 intro e s h
 unfold NumP at h
 cases hn:k05 0 L with
 | none=>
  rw [hn] at h
  obtain⟨h1,h2⟩:=h
  obtain rfl:=h1.symm
  obtain rfl:st=s:=h2.symm
  have hp:j8r L b st (.panic q80) st:=by unfold j8r y45; rw [hn]; exact⟨rfl,rfl⟩
  clear hn
  repeat' (simp -dsimp -implicitDefEqProofs [*])
  exact .same hp
 | some q=>
  obtain⟨u,r⟩:=q
  rw [hn] at h
  obtain⟨rfl,rfl⟩:=h
  have hi:=q75 0 L u r hn
  have hu:u<18446744073709551616:=by have:=hi.2.2 (by omega); omega
  have hr:r.length<=100000:=by
   have:=congrArg List.length hi.1
   rw [List.length_append] at this
   omega
  have hwl:IntKind.u64.wrap (r.length:Int)=r.length:=by simp [IntKind.wrap,IntKind.bits,IntKind.signed]; omega
  by_cases hl:u<=r.length
  ·have hp:Hid (j8r L b st (.ret (.int (u:Nat))) ((b,rdO r)::st)):=⟨by unfold j8r y45; simp [hn,hl]⟩
   have hwu:IntKind.i64.wrap (u:Int)=u:=q5l (by omega) (by omega)
   clear hn hi
   repeat' (first 
    | (with_reducible refine Rets.xcall (k4z _ _) ?_)
    | (simp -dsimp -implicitDefEqProofs [*]))
   exact .same hp.out
  ·have hp:Hid (j8r L b st (.panic q80) st):=⟨by unfold j8r y45; simp [hn,hl]⟩
   clear hn hi
   repeat' (first 
    | (with_reducible refine Panics.xcall (k40 _ _) ?_)
    | (simp -dsimp -implicitDefEqProofs [*]))
   exact RetView.drop (st':=st) q5o hp.out
end Go.Proofs.YtmlmoaimjifpgaaGreat
