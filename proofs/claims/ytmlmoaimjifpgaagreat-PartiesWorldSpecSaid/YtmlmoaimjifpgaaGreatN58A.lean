/- Notes, plain: their messages, reading them, their order. -/
import Derived.Test.YtmlmoaimjifpgaaGreatS58A
import Derived.Test.YtmlmoaimjifpgaaGreatLCd
import Derived.Test.YtmlmoaimjifpgaaGreatCode
import Derived.Test.YtmlmoaimjifpgaaGreatLWd
import Derived.Test.YtmlmoaimjifpgaaGreatLNt
import Derived.Test.YtmlmoaimjifpgaaGreatLLo
import Derived.Test.YtmlmoaimjifpgaaGreatLVf
namespace Go.Proofs.YtmlmoaimjifpgaaGreat
open Go.Pv Go.Pv.Cd
set_option maxRecDepth 100000
set_option maxHeartbeats 4000000
structure Note where
 kind:Int
 ev:Event
 dec:Decision
 deriving DecidableEq,Inhabited
def Event.ints (e:Event):List Int:=[e.no,e.kind,e.round,e.entry,e.judge,e.item,e.value,e.at',e.known]
def Decision.ints (d:Decision):List Int:=[d.no,d.known,d.kind,d.target,d.value,d.eno,d.ekind,d.eround,d.eentry,d.ejudge,d.eitem,d.evalue,d.eat,d.eknown]
def Note.enc (x:Note):List PV:=.int x.kind::(x.ev.enc++x.dec.enc)
abbrev Note.pv (x:Note):PV:=.agg x.enc
section
variable (x:Note) (b k:Nat) (o:PObj)
@[simp] theorem Note.len:x.enc.length=24:=rfl
@[simp] theorem Note.sub_all:sub x.enc 0 24=some x.enc:=rfl
@[simp] theorem Note.get0:x.enc[0]?=some (.int x.kind):=rfl
@[simp] theorem Note.getE0 (h:0<x.enc.length):x.enc[0]'h=.int x.kind:=rfl
@[simp] theorem Note.subEv:sub x.enc 1 9=some x.ev.enc:=rfl
@[simp] theorem Note.subDec:sub x.enc 10 14=some x.dec.enc:=rfl
@[simp] theorem Note.fz:k34 b o k x.enc=x.enc:=by simp [Note.enc,Event.enc,Decision.enc]
end
def Note.row (l:List Note):List PV:=l.flatMap Note.enc
abbrev Note.lst (t:Bool)(l:List Note):PV:=.list t (Note.row l) l.length
@[simp] theorem Note.row_len (l:List Note):(Note.row l).length=l.length*24:=q53 Note.enc 24 Note.len l
@[simp] theorem Note.row_nil:Note.row []=[]:=rfl
@[simp] theorem Note.row_cons (x:Note)(l:List Note):Note.row (x::l)=x.enc++Note.row l:=rfl
@[simp] theorem Note.row_eq_nil (l:List Note):Note.row l=[] ↔ l=[]:=by
 constructor
 ·intro h
  have:=congrArg List.length h
  rw [Note.row_len] at this
  cases l with
  | nil=>rfl
  | cons=>simp at this
 ·rintro rfl; rfl
theorem Note.row_append (l m:List Note):Note.row (l++m)=Note.row l++Note.row m:=by simp [Note.row]
@[simp] theorem Note.row_sub (l:List Note)(i:Nat)(h:i<l.length):sub (Note.row l) (i*24) 24=some (l[i]).enc:=q7i Note.enc 24 Note.len l i h
@[simp] theorem Note.row_fz (b:Nat)(o:PObj)(k:Nat)(l:List Note):k34 b o k (Note.row l)=Note.row l:=z3k Note.enc (fun b o k x=>Note.fz x b k o) b o k l
def Note.ints (n:Note):List Int:=n.kind::(n.ev.ints++n.dec.ints)
def q8b (l:List Int):Note:=⟨l.getD 0 0,⟨l.getD 1 0,l.getD 2 0,l.getD 3 0,l.getD 4 0,l.getD 5 0,l.getD 6 0,l.getD 7 0,l.getD 8 0,l.getD 9 0⟩,⟨l.getD 10 0,l.getD 11 0,l.getD 12 0,l.getD 13 0,l.getD 14 0,l.getD 15 0,l.getD 16 0,l.getD 17 0,l.getD 18 0,l.getD 19 0,l.getD 20 0,l.getD 21 0,l.getD 22 0,l.getD 23 0⟩⟩
@[simp] theorem Note.ints_len (n:Note):n.ints.length=24:=rfl
theorem Note.enc_ints (n:Note):n.enc=n.ints.map fun x=>PV.int x:=rfl
theorem k4p (n:Note):q8b n.ints=n:=rfl
theorem k4q {l:List Int}(h:l.length=24):(q8b l).ints=l:=by
 match l,h with
 | [_,_,_,_,_,_,_,_,_,_,_,_,_,_,_,_,_,_,_,_,_,_,_,_],_=>rfl
def zeroD:Decision:=⟨0,0,0,0,0,0,0,0,0,0,0,0,0,0⟩
def q5s (n:Note):Bool:=if n.kind=1 then q79 n.ev && decide (n.dec=zeroD) else decide (n.kind=2) && q7l n.dec && decide (n.ev=zeroE)
abbrev Sml (x:Int):Prop:=0<=x/\x<=2097152
theorem k9m {e:Event}(h:q79 e=true):∀ x ∈ e.ints,Sml x:=by
 unfold q79 k22 btw at h
 simp only [Bool.and_eq_true,decide_eq_true_eq] at h
 unfold Event.ints
 simp only [List.forall_mem_cons]
 split at h
 ·simp only [Bool.and_eq_true,decide_eq_true_eq] at h
  refine⟨?_, ?_, ?_, ?_, ?_, ?_, ?_, ?_, ?_,fun x hx=>absurd hx List.not_mem_nil⟩ <;> refine⟨?_, ?_⟩ <;> omega
 ·split at h
  ·simp only [Bool.and_eq_true,decide_eq_true_eq,beq_iff_eq] at h
   refine⟨?_, ?_, ?_, ?_, ?_, ?_, ?_, ?_, ?_,fun x hx=>absurd hx List.not_mem_nil⟩ <;> refine⟨?_, ?_⟩ <;> omega
  ·split at h
   ·simp only [Bool.and_eq_true,decide_eq_true_eq,beq_iff_eq] at h
    refine⟨?_, ?_, ?_, ?_, ?_, ?_, ?_, ?_, ?_,fun x hx=>absurd hx List.not_mem_nil⟩ <;> refine⟨?_, ?_⟩ <;> omega
   ·simp at h
theorem k4r:∀ x ∈ zeroE.ints,Sml x:=by decide
theorem z89:∀ x ∈ zeroD.ints,Sml x:=by decide
theorem j8q (d:Decision):d.ints=[d.no,d.known,d.kind,d.target,d.value]++d.event.ints:=rfl
theorem z9a {d:Decision}(h:q7l d=true):∀ x ∈ d.ints,Sml x:=by
 unfold q7l btw at h
 simp only [Bool.and_eq_true,decide_eq_true_eq] at h
 obtain⟨⟨⟨a1,a2⟩,a3,a4⟩,hr⟩:=h
 have key:Sml d.kind/\Sml d.target/\Sml d.value/\∀ x ∈ d.event.ints,Sml x:=by
  unfold q8a at hr
  have tz:k24 d=true->Sml d.target/\d.event=zeroE:=fun hd=>by
   unfold k24 at hd
   simp only [Bool.and_eq_true,decide_eq_true_eq] at hd
   exact⟨⟨hd.1.1,by omega⟩,hd.2⟩
  split at hr
  ·rename_i hd
   unfold k4n at hr
   simp only [Bool.and_eq_true,decide_eq_true_eq] at hr
   obtain⟨t1,t2⟩:=tz hr.1
   have v:=hr.2
   exact⟨⟨by omega,by omega⟩,t1,⟨by omega,by omega⟩,by rw [t2]; exact k4r⟩
  ·split at hr
   ·rename_i hd
    unfold k9k at hr
    simp only [Bool.and_eq_true,decide_eq_true_eq] at hr
    obtain⟨t1,t2⟩:=tz hr.1.1
    have v1:=hr.1.2
    have v2:=hr.2
    exact⟨⟨by omega,by omega⟩,t1,⟨by omega,by omega⟩,by rw [t2]; exact k4r⟩
   ·split at hr
    ·rename_i hd
     unfold addD at hr
     simp only [Bool.and_eq_true,decide_eq_true_eq] at hr
     have t1:=hr.1.1
     have v1:=hr.1.2
     exact⟨⟨by omega,by omega⟩,⟨by omega,by omega⟩,⟨by omega,by omega⟩,k9m hr.2⟩
    ·cases hr
 rw [j8q]
 intro x hx
 rcases List.mem_append.1 hx with hx | hx
 ·simp only [List.mem_cons,List.not_mem_nil,or_false] at hx
  rcases hx with rfl | rfl | rfl | rfl | rfl
  ·exact⟨a1,by omega⟩
  ·exact⟨a3,by omega⟩
  ·exact key.1
  ·exact key.2.1
  ·exact key.2.2.1
 ·exact key.2.2.2 x hx
theorem k0m {n:Note}(h:q5s n=true):∀ x ∈ n.ints,0<=x/\x<=2097152:=by
 unfold q5s at h
 unfold Note.ints
 intro x hx
 split at h
 ·rename_i hk
  simp only [Bool.and_eq_true,decide_eq_true_eq] at h
  rcases List.mem_cons.1 hx with rfl | hx
  ·omega
  ·rcases List.mem_append.1 hx with hx | hx
   ·exact k9m h.1 x hx
   ·rw [h.2] at hx; exact z89 x hx
 ·simp only [Bool.and_eq_true,decide_eq_true_eq] at h
  rcases List.mem_cons.1 hx with rfl | hx
  ·omega
  ·rcases List.mem_append.1 hx with hx | hx
   ·rw [h.2] at hx; exact k4r x hx
   ·exact z9a h.1.2 x hx
def y44 (n:Note):Vl:=.list (n.ints.map .int)
def msg (n:Note):List (BitVec 8):=(y44 n).enc
theorem z6i {d:Nat}:∀ {l:List Int},(∀ x ∈ l, -9223372036854775808<=x/\x<9223372036854775808)->Vl.fits d (l.map .int)
 | [],_=>trivial
 | x::l,h=>⟨by simp only [Vl.fit]; exact h x (List.mem_cons_self ..),z6i fun y hy=>h y (List.mem_cons_of_mem _ hy)⟩
theorem y2g {n:Note}(h:q5s n=true):(y44 n).fit 16:=by
 unfold y44
 rw [Vl.fit]
 refine⟨by rw [List.length_map,Note.ints_len]; decide,z6i fun x hx=>?_⟩
 have:=k0m h x hx
 omega
def q8w:List Vl->Option (List Int)
 | []=>some []
 | .int x::l=>(q8w l).map (x::·)
 | _::_=>none
theorem z6j:∀ l:List Int,q8w (l.map .int)=some l
 | []=>rfl
 | x::l=>by rw [List.map_cons,q8w,z6j l]; rfl
theorem k5r:∀ {l:List Vl} {k:List Int},q8w l=some k->l=k.map .int
 | [],k,h=>by simp only [q8w,Option.some.injEq] at h; subst h; rfl
 | .int x::l,k,h=>by
  rw [q8w] at h
  cases e:q8w l with
  | none=>rw [e] at h; cases h
  | some k'=>
   rw [e] at h
   simp only [Option.map_some,Option.some.injEq] at h
   subst h
   rw [List.map_cons,k5r e]
 | .text s::l,k,h=>by simp [q8w] at h
 | .list s::l,k,h=>by simp [q8w] at h
def q8c (b:List (BitVec 8)):Option Note:=match Go.Pv.Cd.decode b with
 | some (.list l)=>match q8w l with
  | some k=>if k.length=24/\q5s (q8b k)=true then some (q8b k) else none
  | none=>none
 | _=>none
theorem k8a {n:Note}(h:q5s n=true):q8c (msg n)=some n:=by
 unfold q8c msg
 rw [j2n (y2g h)]
 unfold y44
 simp only
 rw [z6j]
 simp only [Note.ints_len,k4p,true_and]
 rw [if_pos h]
theorem k5s {b:List (BitVec 8)}{n:Note}(h:q8c b=some n):q5s n=true/\b=msg n:=by
 unfold q8c at h
 split at h
 ·rename_i l e
  split at h
  ·rename_i k e2
   split at h
   ·rename_i hc
    simp only [Option.some.injEq] at h
    subst h
    refine⟨hc.2, ?_⟩
    rw [(j2o e).1,k5r e2]
    unfold msg y44
    rw [k4q hc.1]
   ·cases h
  ·cases h
 ·cases h
def toU (l:List (BitVec 8)):List UInt8:=l.map UInt8.ofBitVec
theorem y2h {l m:List (BitVec 8)}(h:toU l=toU m):l=m:=by
 have:=congrArg (fun q=>q.map UInt8.toBitVec) h
 simpa [toU,Function.comp_def] using this
def q6v (a b:Note):Int:=Lib.compareBytes (toU (msg a)) (toU (msg b))
theorem cmpN_ord:Cmp q6v fun n=>q5s n=true where
 self a:=z1y _
 eq a b ha hb h:=by
  have e:=y2h (j06 h)
  have:=k8a ha
  rw [e,k8a hb] at this
  exact (Option.some.inj this).symm
 swap a b:=z1z _ _
 trans a b d h k:=k9d h k
open Go.Pv
set_option maxRecDepth 100000
set_option maxHeartbeats 4000000
abbrev y7w (s:ByteArray):List (BitVec 8):=s.data.toList.map (·.toBitVec)
theorem j8r (s:ByteArray):(y7w s).length=s.size:=by rw [List.length_map]; rfl
open Go.Pv
set_option maxRecDepth 100000
set_option maxHeartbeats 4000000
theorem q8r {α:Type}{row:List α->List PV}{k:Nat}(hrl:∀ l,(row l).length=l.length*k)(hra:∀ l m,row (l++m)=row l++row m){T:TypeId}{bytes:Nat}{st:q5c}{K:PV->q5c->Prop}
  (o:Option (Acc α)) (ho:accOk row k st o) (xs:List α) {new:List PV} {m:Nat} (hnew:row xs=new) (hm:xs.length=m) (hsz:((q5u o).length+m)*bytes<=140737488355328)
  (h:∀ o':Option (Acc α),accOk row k st o'->q5u o'=q5u o++xs->K (q7n o') (q6c T st o')):q61 T bytes k (q7n o) new m (q6c T st o) K:=by
 by_cases h0:m=0
 ·have hx:xs=[]:=List.length_eq_zero_iff.1 (hm.trans h0)
  subst hx
  cases o with
  | none=>
   subst h0
   simp only [k1b,q8p]
   rw [k4i]
   exact⟨fun _=>h none trivial rfl,fun h=>absurd rfl h⟩
  | some a=>
   obtain⟨ha,hb⟩:=ho
   refine q7t hrl hra ha (by simp) [] hnew hm hsz fun a' ha' hl' hb'=>?_
   have e:k2d a.b (q6c T st (some a))=st:=by simp [q7s hb]
   rw [e] at hb' ⊢
   exact h (some a') ⟨ha',hb'⟩ hl'
 ·exact q9k hrl hra o ho xs hnew hm (by omega) hsz h
open Go.Pv
set_option maxRecDepth 100000
set_option maxHeartbeats 4000000
def j1c (f:Nat->PV)(k:Nat):Nat->List PV
 | 0=>[]
 | n+1=>f k::j1c f (k+1) n
theorem z6k (b k:Nat)(st:q5c):Rets P F.q4b [.ptr b k] st (.agg (j1c (.ptr b) k 9)):=by
 refine H.q4b.view q5l rfl rfl ?_
 repeat' (first 
  | (with_reducible refine Fresh.intro fun b hb=>?_) <;> (try simp -dsimp -implicitDefEqProofs [*] at hb)
  | (simp -dsimp -implicitDefEqProofs [*]))
 exact RetView.drop (st':=st) q5m ⟨rfl,rfl⟩
theorem q6b {α:Type}{L:List α}{i:Nat}{x:α}(h:L[i]?=some x)(h2:i<L.length):L[i]'h2=x:=by
 rw [List.getElem?_eq_getElem h2] at h
 exact Option.some.inj h
open Go.Pv
set_option maxRecDepth 100000
set_option maxHeartbeats 8000000
def v1z (st:q5c)(e:PEnd)(s:q5c):Prop:=∃ o:Option (Acc PV),accOk (fun l=>l) 1 st o/\q5u o=[]/\e=.ret (q7n o)/\s=q6c T.int_2 st o
def v0e (l:List Unit):List PV:=List.replicate l.length (.val (.pointer none))
theorem j2x (n:Nat)(hn:n<=100000)(st:q5c):PCalls P F.q2q [.nil,.int (n:Int)] st (v1z st):=by
 refine H.q2q.view q5l rfl rfl ?_
 have hw:IntKind.i64.wrap (n:Int)=n:=j8d (by omega)
 have hw0:IntKind.i64.wrap 0=0:=rfl
 by_cases h0:n=0
 ·subst h0
  repeat' (simp -dsimp -implicitDefEqProofs [*])
  exact .same ⟨none,trivial,rfl,rfl,rfl⟩
 ·have h0':(0:Int)<n:=by omega
  repeat' (first 
   | (with_reducible refine And.intro (fun h=>?_) (fun h=>?_)) <;> (try (exfalso; omega))
   | ((with_reducible refine q5r ?_ fun hk=>?_); omega)
   | (simp -dsimp -implicitDefEqProofs [-q5d, *]))
  refine q9k (row:=v0e) (k:=1) (T:=T.int_2) (st:=st) (by simp [v0e]) (by intro l m; simp [v0e]) none trivial (List.replicate n ()) (by simp [v0e,List.flatten_replicate_singleton]) (by simp) (by omega) (by simp; omega) fun o' h1 h2=>?_
  cases o' with
  | none=>exact absurd (congrArg List.length h2) (by simpa using fun h=>h0 h.symm)
  | some a=>
   simp only [q9x] at h1
   simp only [q7e,q78,List.nil_append] at h2
   obtain⟨⟨a1,a2,a3,a4⟩,a5⟩:=h1
   have hl:a.l.length=n:=by rw [h2]; simp
   rw [hl] at a1 a4
   simp only [q65,q5y,hl]
   clear h2 hl
   obtain⟨L,b,cap,R⟩:=a
   simp only at a1 a2 a3 a4 a5
   repeat' (simp -dsimp -implicitDefEqProofs [*])
   exact .same ⟨some ⟨[],b,cap,R⟩,⟨⟨by simp,a2,a3,by simp⟩,a5⟩,rfl,rfl,rfl⟩
def llP (ls:List (Bool × List PV)):List PV:=ls.map fun q=>.list q.1 q.2 q.2.length
def j1d (ls:List (Bool × List PV))(i:Nat):Nat:=((ls.take i).map fun q=>q.2.length).sum
def j8s (ls:List (Bool × List PV))(i:Nat):List PV:=(ls.take i).flatMap fun q=>q.2
theorem z6l {ls:List (Bool × List PV)}{i:Nat}(h:i<ls.length):j1d ls (i+1)=j1d ls i+ls[i].2.length:=by
 unfold j1d
 rw [List.take_succ_eq_append_getElem h,List.map_append,List.sum_append]
 simp
theorem j5q {ls:List (Bool × List PV)}{i:Nat}(h:i<ls.length):j8s ls (i+1)=j8s ls i++ls[i].2:=by
 unfold j8s
 rw [List.take_succ_eq_append_getElem h,List.flatMap_append]
 simp
theorem j1e (ls:List (Bool × List PV))(i:Nat):(j8s ls i).length=j1d ls i:=by
 unfold j8s j1d
 rw [List.length_flatMap]
theorem j5r {ls:List (Bool × List PV)}{i:Nat}(h:i<ls.length):(llP ls)[i]?=some (.list ls[i].1 ls[i].2 ls[i].2.length):=by simp [llP,h]
@[simp] theorem v10 (ls:List (Bool × List PV)):(llP ls).length=ls.length:=by simp [llP]
theorem z6m (t:Bool)(ls:List (Bool × List PV))(hl:ls.length<=10)(hk:∀ q ∈ ls,q.2.length<=100)(st:q5c):Rets P F.q1g [.list t (llP ls) ls.length] st (.list false (j8s ls ls.length) (j1d ls ls.length)):=by
 have hT:∀ i,i<=ls.length->j1d ls i<=i*100:=fun i=>by
  induction i with
  | zero=>intro _; simp [j1d]
  | succ i ih=>
   intro hi
   rw [z6l (by omega)]
   have:=ih (by omega)
   have:=hk _ (List.getElem_mem (show i<ls.length by omega))
   omega
 refine H.q1g.view q5l rfl rfl ?_
 repeat' (simp -dsimp -implicitDefEqProofs [*])
 refine q5e (fun i:Nat=>[(0,.list t (llP ls) ls.length),(3,.int (j1d ls i:Nat)),(9,.list t (llP ls) ls.length),(10,.int ls.length),(11,.int (i:Nat))]) (fun _=>st) (fun i=>i<=ls.length) (fun i=>ls.length-i) 0 (Nat.zero_le _) (by simp [j1d]) (.refl _) ?_
 intro i hi
 by_cases hil:i<ls.length
 ·have hwi:=q5f (n:=i) (by omega)
  have g:=j5r hil
  have G:=q6b g
  have hs:=z6l hil
  have h1:=hT i hi
  have h2:=hk _ (List.getElem_mem hil)
  obtain⟨q,hq⟩:∃ q,q=ls[i]:=⟨_,rfl⟩
  rw [<-hq] at g hs h2
  simp only [<-hq] at G
  obtain⟨tq,Q⟩:=q
  simp only at g hs h2 G
  have hw:IntKind.i64.wrap ((j1d ls i:Int)+Q.length)=(j1d ls i:Int)+Q.length:=q5i (by omega) (by omega)
  have hp:¬ (j1d ls i:Int)+Q.length<0:=by omega
  clear hq hk hT
  repeat' (simp -dsimp -implicitDefEqProofs [*])
  exact Next.intro (i+1) (by omega) (by omega) (by simp [hs]) q5m
 obtain rfl:i=ls.length:=by omega
 have hg:=fun st=>j2x (j1d ls ls.length) (by have:=hT ls.length (Nat.le_refl _); omega) st
 repeat' (simp -dsimp -implicitDefEqProofs [*])
 refine q5h (hg _) ?_
 rintro e s ⟨o,ho,hol,rfl,rfl⟩
 rw [q5v]
 clear hg
 repeat' (simp -dsimp -implicitDefEqProofs [-q5d, *])
 refine q5e (fun y:Nat × Option (Acc PV)=>[(6,q7n y.2),(25,.list t (llP ls) ls.length),(26,.int ls.length),(27,.int (y.1:Nat))]) (fun y=>q6c T.int_2 st y.2) (fun y=>y.1<=ls.length/\accOk (fun l=>l) 1 st y.2/\Hid (q5u y.2=j8s ls y.1)) (fun y=>ls.length-y.1) (0,o) ⟨Nat.zero_le _,ho,⟨hol⟩⟩ (by simp) (.refl _) ?_
 clear hol ho
 clear o
 rintro⟨i,o⟩ ⟨hi,ho,hol⟩
 replace hi:i<=ls.length:=hi
 replace ho:accOk (fun l=>l) 1 st o:=ho
 replace hol:Hid (q5u o=j8s ls i):=hol
 simp only
 by_cases hil:i<ls.length
 case neg=>
  obtain rfl:i=ls.length:=by omega
  clear hk hT
  repeat' (simp -dsimp -implicitDefEqProofs [-q5d, *])
  exact RetView.accP1 (row:=fun l=>l) rfl ho (.same ⟨by rw [hol.out,j1e],rfl⟩)
 have hwi:=q5f (n:=i) (by omega)
 have g:=j5r hil
 have G:=q6b g
 have hs:=Hid.mk (j5q hil)
 have hs2:=Hid.mk (j1e ls i)
 have h1:=hT i hi
 have h2:=hk _ (List.getElem_mem hil)
 obtain⟨q,hq⟩:∃ q,q=ls[i]:=⟨_,rfl⟩
 rw [<-hq] at g hs h2
 simp only [<-hq] at G
 obtain⟨tq,Q⟩:=q
 simp only at g hs h2 G
 clear hq hk hT
 repeat' (simp -dsimp -implicitDefEqProofs [-q5d, *])
 refine q8r (row:=fun l=>l) (k:=1) (by simp) (by simp) o ho Q rfl rfl (by rw [hol.out,hs2.out]; omega) fun o' ho' hl'=>?_
 have kl':Hid (q5u o'=j8s ls (i+1)):=⟨by rw [hl',hol.out,hs.out]⟩
 clear hl'
 repeat' (simp -dsimp -implicitDefEqProofs [-q5d, *])
 exact Next.intro (i+1,o') ⟨by simp only; omega,ho',kl'⟩ (by simp only; omega) (by simp) q5m
open Go.Pv
set_option maxRecDepth 100000
set_option maxHeartbeats 8000000
def v11 (f:Nat->PV):List (Bool × List PV):=[(true,[f 0]),(false,[f 1,f 2,f 3,f 4,f 5,f 6,f 7,f 8,f 9]),(true,[f 10,f 11,f 12,f 13,f 14]),(false,[f 15,f 16,f 17,f 18,f 19,f 20,f 21,f 22,f 23])]
theorem z6n (f:Nat->PV)(st:q5c):Rets P F.q1g [.list true [.list true [f 0] 1,.list false [f 1,f 2,f 3,f 4,f 5,f 6,f 7,f 8,f 9] 9,.list true [f 10,f 11,f 12,f 13,f 14] 5,.list false [f 15,f 16,f 17,f 18,f 19,f 20,f 21,f 22,f 23] 9] 4] st (.list false (j1c f 0 24) 24):=
 z6m true (v11 f) (by simp [v11]) (by simp [v11]) st
theorem j5s (f:Nat->PV)(a c:Nat)(st:q5c)(ha:q50 st a)(hc:q50 ((a,.arr T.t9int [f 1,f 2,f 3,f 4,f 5,f 6,f 7,f 8,f 9])::st) c) :
  PCalls P F.q1g [.list true [.list true [f 0] 1,.own a 0 9 9,.list true [f 10,f 11,f 12,f 13,f 14] 5,.own c 0 9 9] 4] ((c,.arr T.t9int [f 15,f 16,f 17,f 18,f 19,f 20,f 21,f 22,f 23])::(a,.arr T.t9int [f 1,f 2,f 3,f 4,f 5,f 6,f 7,f 8,f 9])::st) fun e s=>e=.ret (.list false (j1c f 0 24) 24)/\s=st:=
 PCalls.frz hc (.refl _) (.cons (.list true 4 (.cons (.refl _) (.cons (.refl _) (.cons (.refl _) (.cons (.own T.t9int [f 15,f 16,f 17,f 18,f 19,f 20,f 21,f 22,f 23] 0 9 9 1 rfl (by decide) (by decide)) .nil))))) .nil)
  (PCalls.frz ha (.refl _) (.cons (.list true 4 (.cons (.refl _) (.cons (.own T.t9int [f 1,f 2,f 3,f 4,f 5,f 6,f 7,f 8,f 9] 0 9 9 1 rfl (by decide) (by decide)) (.cons (.refl _) (.cons (.refl _) .nil))))) .nil) (z6n f st))
theorem j5t (f:Nat->PV)(a c:Nat)(st:q5c)(hc:q50 st c)(ha:q50 ((c,.arr T.t9int [f 15,f 16,f 17,f 18,f 19,f 20,f 21,f 22,f 23])::st) a) :
  PCalls P F.q1g [.list true [.list true [f 0] 1,.own a 0 9 9,.list true [f 10,f 11,f 12,f 13,f 14] 5,.own c 0 9 9] 4] ((a,.arr T.t9int [f 1,f 2,f 3,f 4,f 5,f 6,f 7,f 8,f 9])::(c,.arr T.t9int [f 15,f 16,f 17,f 18,f 19,f 20,f 21,f 22,f 23])::st) fun e s=>e=.ret (.list false (j1c f 0 24) 24)/\s=st:=
 PCalls.frz ha (.refl _) (.cons (.list true 4 (.cons (.refl _) (.cons (.own T.t9int [f 1,f 2,f 3,f 4,f 5,f 6,f 7,f 8,f 9] 0 9 9 1 rfl (by decide) (by decide)) (.cons (.refl _) (.cons (.refl _) .nil))))) .nil)
  (PCalls.frz hc (.refl _) (.cons (.list true 4 (.cons (.refl _) (.cons (.refl _) (.cons (.refl _) (.cons (.own T.t9int [f 15,f 16,f 17,f 18,f 19,f 20,f 21,f 22,f 23] 0 9 9 1 rfl (by decide) (by decide)) .nil))))) .nil) (z6n f st))
theorem q90 (q:Nat)(st:q5c):Rets P F.q3r [.ptr q 0] st (.list false (j1c (.ptr q) 0 24) 24):=by
 have ev1:=fun st=>z6k q 1 st
 have ev2:=fun st=>z6k q 15 st
 have o1:=fun a c st ha hc=>j5s (.ptr q) a c st ha hc
 have o2:=fun a c st ha hc=>j5t (.ptr q) a c st ha hc
 obtain⟨R,hR⟩:∃ R,R=j1c (.ptr q) 0 24:=⟨_,rfl⟩
 rw [<-hR]
 simp only [<-hR] at o1 o2
 clear hR
 simp only [j1c] at ev1 ev2
 refine H.q3r.view q5l rfl rfl ?_
 repeat' (simp -dsimp -implicitDefEqProofs [*])
 refine DrawFork.by (fun _=>True) trivial ?_
 repeat' (first 
  | (with_reducible refine q6f (fun _=>ev1 _) ?_)
  | (with_reducible refine q6f (fun _=>ev2 _) ?_)
  | (simp -dsimp -implicitDefEqProofs [*]))
 clear ev1 ev2
 refine⟨?_, ?_⟩
 ·repeat' (first 
   | (with_reducible refine Fresh.intro fun b hb=>?_) <;> (try simp -dsimp -implicitDefEqProofs [*] at hb)
   | (simp -dsimp -implicitDefEqProofs [*]))
  refine DrawLate.by (fun _=>True) trivial ?_
  repeat' (simp -dsimp -implicitDefEqProofs [*])
  rename_i a ha
  refine q5h (o1 a b st ha hb) ?_
  clear o1 o2
  rintro e s ⟨rfl,rfl⟩
  rw [q5v]
  repeat' (simp -dsimp -implicitDefEqProofs [*])
  exact .same ⟨rfl,rfl⟩
 ·repeat' (first 
   | (with_reducible refine Fresh.intro fun b hb=>?_) <;> (try simp -dsimp -implicitDefEqProofs [*] at hb)
   | (simp -dsimp -implicitDefEqProofs [*]))
  refine DrawLate.by (fun _=>True) trivial ?_
  repeat' (simp -dsimp -implicitDefEqProofs [*])
  rename_i a ha
  refine q5h (o2 b a st ha hb) ?_
  clear o1 o2
  rintro e s ⟨rfl,rfl⟩
  rw [q5v]
  repeat' (simp -dsimp -implicitDefEqProofs [*])
  exact .same ⟨rfl,rfl⟩
open Go.Pv Go.Pv.Cd
set_option maxRecDepth 100000
set_option maxHeartbeats 4000000
abbrev rdO (L:List (BitVec 8)):PObj:=.arr T.q48 [q54 false L]
def q8s:PV:=.iface T.apiErrno (.int 10)
def PanD (P:Program)(g:FuncId)(ps:List PV)(st:q5c)(p:PV)(st':q5c):Prop:=PCalls P g ps st fun e s=>e=.panic p/\s=st'
theorem PanD.xcall {P:Program}{g:FuncId}{ps:List PV}{st st':q5c}{p:PV}(h:PanD P g ps st p st'){Q:PEnd->q5c->Prop}(hk:Q (.panic p) st'):xcall P g ps st Q:=
 PCalls.mono h fun e s ⟨h1,h2⟩=>by subst h1; subst h2; exact hk
theorem k4s (b:Nat)(st:q5c):Rets P F.q04 [.ptr b 0,.bool true] st (.tuple []):=by
 refine H.q04.pure q5l rfl rfl ?_
 repeat' (simp -dsimp -implicitDefEqProofs [*])
theorem k4t (b:Nat)(st:q5c):Panics P F.q04 [.ptr b 0,.bool false] st q8s:=by
 refine H.q04.panics q5l rfl rfl ?_
 repeat' (simp -dsimp -implicitDefEqProofs [q8s, *])
theorem j5u (L:List (BitVec 8))(n:Nat)(h:n<=L.length)(b:Nat)(st:q5c)(_hb:q50 st b):Does P F.q0z [.ptr b 0,.int (n:Int)] ((b,rdO L)::st) (.list true (q5k (L.take n)) n) ((b,rdO (L.drop n))::st):=by
 have h1:(n:Int)<=L.length:=by omega
 refine H.q0z.view q5l rfl rfl ?_
 repeat' (first 
  | (with_reducible refine Rets.xcall (k4s _ _) ?_)
  | (simp -dsimp -implicitDefEqProofs [*]))
 exact .same ⟨by rw [k2y],by rw [k2z,<-List.length_drop]⟩
theorem y2i (L:List (BitVec 8))(n:Nat)(h:¬ n<=L.length)(b:Nat)(st:q5c)(hb:q50 st b):PanD P F.q0z [.ptr b 0,.int (n:Int)] ((b,rdO L)::st) q8s st:=by
 have h1:¬ (n:Int)<=L.length:=by omega
 refine H.q0z.view q5l rfl rfl ?_
 repeat' (first 
  | (with_reducible refine Panics.xcall (k4t _ _) ?_)
  | (simp -dsimp -implicitDefEqProofs [*]))
 exact RetView.drop (st':=st) q5m ⟨rfl,rfl⟩
theorem k3p (c:BitVec 8)(r:List (BitVec 8))(b:Nat)(st:q5c)(hb:q50 st b):Does P F.q0z [.ptr b 0,.int 1] ((b,rdO (c::r))::st) (.list true [bv c] 1) ((b,rdO r)::st):=
 j5u (c::r) 1 (by simp) b st hb
theorem j1f (b:Nat)(st:q5c)(hb:q50 st b):PanD P F.q0z [.ptr b 0,.int 1] ((b,rdO [])::st) q8s st:=
 y2i [] 1 (by simp) b st hb
end Go.Proofs.YtmlmoaimjifpgaaGreat
