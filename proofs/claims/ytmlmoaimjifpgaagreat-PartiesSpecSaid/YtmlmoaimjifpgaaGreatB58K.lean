/- Whether a room is small. -/
import Derived.Test.YtmlmoaimjifpgaaGreatB58B
import Derived.Test.YtmlmoaimjifpgaaGreatR58E
import Derived.Test.YtmlmoaimjifpgaaGreatP58C
import Derived.Test.YtmlmoaimjifpgaaGreatO58A
namespace Go.Proofs.YtmlmoaimjifpgaaGreat
open Go.Pv Go.Pv.Cd
set_option maxRecDepth 100000
set_option maxHeartbeats 8000000
theorem z9z (Q:List Pk)(ap:List Lk)(st:q5f):Rets P F.q38 [q9z Q ap] st (.bool (decide (Q.length<=40) && decide (ap.length<=40))):=by
 have har:=Lk.row_len ap
 have hqr:=Pk.row_len Q
 have e1:decide (Q.length<=40)=decide ((Q.length:Int)<=40):=by rw [decide_eq_decide]; omega
 have e2:decide (ap.length<=40)=decide ((ap.length:Int)<=40):=by rw [decide_eq_decide]; omega
 rw [e1,e2]
 clear e1 e2
 refine H.q38.view q5n rfl rfl ?_
 by_cases h1:(Q.length:Int)<=40
 ·repeat' (first 
   | (with_reducible refine Fresh.intro fun b hb=>?_) <;> (try simp -dsimp -implicitDefEqProofs [*] at hb)
   | (simp -dsimp -implicitDefEqProofs [*]))
  all_goals exact .drop (st':=st) q5o ⟨by simp [h1],rfl⟩
 ·repeat' (first 
   | (with_reducible refine Fresh.intro fun b hb=>?_) <;> (try simp -dsimp -implicitDefEqProofs [*] at hb)
   | (simp -dsimp -implicitDefEqProofs [*]))
  all_goals exact .drop (st':=st) q5o ⟨by simp [h1],rfl⟩
def k67 (peers:List (List Note))(Q:List Pk)(ap:List Lk):Prop:=¬ (5<peers.length/\peers.length<=24)/\(Q.length<=40/\ap.length<=40)/\(∀ l ∈ peers.take 30,l.length<=30)/\∀ p ∈ Q,p.d.length<=1000
def v2e (F:Prop)(st:q5f)(e:PEnd)(s:q5f):Prop:=∃ r:Bool,e=.ret (.bool r)/\s=st/\(r=true->F)
theorem z68 (peers:List (List Note))(Q:List Pk)(ap:List Lk)(st:q5f):PCalls P F.q37 [.agg (q6j peers Q ap)] st (v2e (k67 peers Q ap) st):=by
 have yes:=Hid.mk fun h=>(⟨true,rfl,rfl,fun _=>h⟩:v2e (k67 peers Q ap) st (.ret (.bool true)) st)
 have no:v2e (k67 peers Q ap) st (.ret (.bool false)) st:=⟨false,rfl,rfl,fun h=>by cases h⟩
 have har:=Lk.row_len ap
 have hqr:=Pk.row_len Q
 have hpl:=q71 peers
 have fn:=fun st=>z9z Q ap st
 unfold q6j
 refine H.q37.view q5n rfl rfl ?_
 by_cases h1:5<peers.length/\peers.length<=24
 ·have h2:(5:Int)<peers.length:=by omega
  have h3:(peers.length:Int)<=24:=by omega
  clear yes fn
  repeat' (first 
   | (with_reducible refine Fresh.intro fun b hb=>?_) <;> (try simp -dsimp -implicitDefEqProofs [*] at hb)
   | (simp -dsimp -implicitDefEqProofs [*]))
  exact .drop (st':=st) q5o no
 by_cases hn:Q.length<=40/\ap.length<=40
 case neg=>
  have e:(decide (Q.length<=40) && decide (ap.length<=40))=false:=by
   rw [<-Bool.not_eq_true,Bool.and_eq_true,decide_eq_true_eq,decide_eq_true_eq]
   exact hn
  rw [e] at fn
  clear yes
  by_cases h2:(5:Int)<peers.length
  ·have h3:¬ (peers.length:Int)<=24:=by omega
   clear h1 hn e
   repeat' (first 
    | (with_reducible refine Fresh.intro fun b hb=>?_) <;> (try simp -dsimp -implicitDefEqProofs [*] at hb)
    | (with_reducible refine Rets.xcall (fn _) ?_)
    | (simp -dsimp -implicitDefEqProofs [*]))
   exact .drop (st':=st) q5o no
  ·clear h1 hn e
   repeat' (first 
    | (with_reducible refine Fresh.intro fun b hb=>?_) <;> (try simp -dsimp -implicitDefEqProofs [*] at hb)
    | (with_reducible refine Rets.xcall (fn _) ?_)
    | (simp -dsimp -implicitDefEqProofs [*]))
   exact .drop (st':=st) q5o no
 have e:(decide (Q.length<=40) && decide (ap.length<=40))=true:=by
  rw [Bool.and_eq_true,decide_eq_true_eq,decide_eq_true_eq]
  exact hn
 rw [e] at fn
 have h5:¬ (5:Int)<peers.length\/((5:Int)<peers.length/\¬ (peers.length:Int)<=24):=by omega
 replace yes:=Hid.mk fun a b=>yes.out ⟨h1,hn,a,b⟩
 have hQ:=hn.1
 clear e h1 hn
 rcases h5 with h5 |⟨h5,h6⟩
 all_goals
  repeat' (first 
   | (with_reducible refine Fresh.intro fun b hb=>?_) <;> (try simp -dsimp -implicitDefEqProofs [*] at hb)
   | (with_reducible refine Rets.xcall (fn _) ?_)
   | (simp -dsimp -implicitDefEqProofs [*]))
  clear fn
  refine q5h (fun i:Nat=>[(1,.ptr b 0),(3,.int i)]) (fun _=>(b,.arr T.apiRoom [.list false (prR peers) peers.length,Pk.lst false Q,Lk.lst false ap])::st) (fun i=>(i<=peers.length/\i<=30)/\Hid (∀ l ∈ peers.take i,l.length<=30)) (fun i=>30-i) 0 ⟨⟨Nat.zero_le _,Nat.zero_le _⟩,⟨fun _ h=>by cases h⟩⟩ (by simp) (.refl _) ?_
  rintro i ⟨⟨hi,hi3⟩,hI⟩
  by_cases hil:i<peers.length/\i<30
  ·obtain⟨hil,hi30⟩:=hil
   have hwi:=q5i (n:=i) (by omega)
   have g1:=k3f hil
   have G1:=q6v g1
   have hx:Hid (peers[i].length<=30->∀ l ∈ peers.take (i+1),l.length<=30):=⟨fun h1 t ht=>by
    rw [List.take_succ_eq_append_getElem hil] at ht
    rcases List.mem_append.1 ht with h | h
    ·exact hI.out t h
    ·rw [List.mem_singleton.1 h]; exact h1⟩
   obtain⟨l,hl⟩:∃ l,l=peers[i]:=⟨_,rfl⟩
   rw [<-hl] at g1 hx
   simp only [<-hl] at G1
   clear hl hI yes
   by_cases h30:(30:Int)<l.length
   ·clear hx
    repeat' (first 
     | (with_reducible refine And.intro (fun h=>?_) (fun h=>?_)) <;> (try (exfalso; omega))
     | (simp -dsimp -implicitDefEqProofs [*]))
    exact .drop (st':=st) q5o no
   ·have hy:=Hid.mk (hx.out (by omega))
    clear hx
    repeat' (first 
     | (with_reducible refine And.intro (fun h=>?_) (fun h=>?_)) <;> (try (exfalso; omega))
     | (simp -dsimp -implicitDefEqProofs [*]))
    exact Next.intro (i+1) ⟨by omega,hy⟩ (by omega) (by simp) q5o
  have ht:Hid (∀ l ∈ peers.take 30,l.length<=30):=⟨fun l hl=>hI.out l (by
   by_cases e:i=30
   ·rw [e]; exact hl
   ·have:i=peers.length:=by omega
    rw [this,List.take_length]
    exact List.mem_of_mem_take hl)⟩
  have hge:¬ (i:Int)<peers.length\/((i:Int)<peers.length/\¬ (i:Int)<30):=by omega
  replace yes:=Hid.mk (yes.out ht.out)
  clear ht hI hil
  rcases hge with hge |⟨hge,hge2⟩
  all_goals
   repeat' (simp -dsimp -implicitDefEqProofs [*])
   refine q5h (fun i:Nat=>[(1,.ptr b 0),(4,.int i)]) (fun _=>(b,.arr T.apiRoom [.list false (prR peers) peers.length,Pk.lst false Q,Lk.lst false ap])::st) (fun i=>i<=Q.length/\Hid (∀ p ∈ Q.take i,p.d.length<=1000)) (fun i=>Q.length-i) 0 ⟨Nat.zero_le _,⟨fun _ h=>by cases h⟩⟩ (by simp) (.refl _) ?_
   rintro k ⟨hk,hK⟩
   by_cases hkl:k<Q.length
   ·have hwi:=q5i (n:=k) (by omega)
    have hs:=Pk.row_sub Q k hkl
    have hg:(Pk.row Q)[k*3+2]?=some (q53 false Q[k].d):=q94 Pk.enc 3 Pk.len Q k 2 hkl (by omega)
    have hG:=q6v hg
    have hx:Hid (Q[k].d.length<=1000->∀ p ∈ Q.take (k+1),p.d.length<=1000):=⟨fun h1 t ht=>by
     rw [List.take_succ_eq_append_getElem hkl] at ht
     rcases List.mem_append.1 ht with h | h
     ·exact hK.out t h
     ·rw [List.mem_singleton.1 h]; exact h1⟩
    clear hK yes
    generalize Q[k]=x at *
    by_cases h30:(1000:Int)<x.d.length
    ·clear hx
     repeat' (simp -dsimp -implicitDefEqProofs [*])
     exact .drop (st':=st) q5o no
    ·have hy:=Hid.mk (hx.out (by omega))
     clear hx
     repeat' (simp -dsimp -implicitDefEqProofs [*])
     exact Next.intro (k+1) ⟨by omega,hy⟩ (by omega) (by simp) q5o
   obtain rfl:k=Q.length:=by omega
   rw [List.take_length] at hK
   have e:=yes.out hK.out
   clear yes hK
   repeat' (simp -dsimp -implicitDefEqProofs [*])
   exact .drop (st':=st) q5o e
open Go.Pv
set_option maxRecDepth 100000
set_option maxHeartbeats 8000000
theorem k8g (q:List Pk)(ap:List Lk)(hap:ap.length<=100000)(hl:q.length<=4096)(hq:q8o q ap)(i:Nat)(hi:i<q.length)(st:q5f):Rets P F.q1x [q9z q ap,.int i] st (.int 0):=by
 have c:=fun st=>q8g q (by omega) ap hap true ⟨fun _=>hq,fun _=>rfl⟩ st
 rw [if_pos rfl] at c
 clear hq
 refine H.q1x.view q5n rfl rfl ?_
 repeat' (first 
  | (with_reducible refine Fresh.intro fun b hb=>?_) <;> (try simp -dsimp -implicitDefEqProofs [*] at hb)
  | (with_reducible refine Rets.xcall (c _) ?_)
  | (with_reducible refine And.intro (fun h=>?_) ?_) <;> (try (exfalso; omega))
  | (simp -dsimp -implicitDefEqProofs [*]))
 all_goals exact .drop (st':=st) q5o ⟨rfl,rfl⟩
theorem z4d (q:List Pk)(ap:List Lk)(hap:ap.length<=100000)(hl:q.length<=4096)(hq:q8o q ap)(i:Int)(hi:¬ (0<=i/\i<q.length))(st:q5f):Rets P F.q1x [q9z q ap,.int i] st (.int 1):=by
 have c:=fun st=>q8g q (by omega) ap hap true ⟨fun _=>hq,fun _=>rfl⟩ st
 rw [if_pos rfl] at c
 clear hq
 refine H.q1x.view q5n rfl rfl ?_
 by_cases h0:i<0
 ·repeat' (first 
   | (with_reducible refine Fresh.intro fun b hb=>?_) <;> (try simp -dsimp -implicitDefEqProofs [*] at hb)
   | (with_reducible refine Rets.xcall (c _) ?_)
   | (simp -dsimp -implicitDefEqProofs [*]))
  all_goals exact .drop (st':=st) q5o ⟨rfl,rfl⟩
 ·have h1:(q.length:Int)<=i:=by omega
  repeat' (first 
   | (with_reducible refine Fresh.intro fun b hb=>?_) <;> (try simp -dsimp -implicitDefEqProofs [*] at hb)
   | (with_reducible refine Rets.xcall (c _) ?_)
   | (simp -dsimp -implicitDefEqProofs [*]))
  all_goals exact .drop (st':=st) q5o ⟨rfl,rfl⟩
theorem k7w (q:List Pk)(ap:List Lk)(hap:ap.length<=100000)(hl:q.length<4096)(hq:q8o q ap)(p:Pk)(hp:pkB p=true)(st:q5f):Rets P F.q28 [q9z q ap,p.pv] st (.tuple [q9z (q++[p]) ap,.int 0]):=by
 have c:=fun st=>q8g q (by omega) ap hap true ⟨fun _=>hq,fun _=>rfl⟩ st
 rw [if_pos rfl] at c
 have k:=fun st=>k4e p st
 rw [hp] at k
 clear hq hp
 have hqr:=Pk.row_len q
 have h4:¬ (q.length:Int)=4096:=by omega
 refine H.q28.view q5n rfl rfl ?_
 repeat' (first 
  | (with_reducible refine Fresh.intro fun b hb=>?_) <;> (try simp -dsimp -implicitDefEqProofs [*] at hb)
  | (with_reducible refine Rets.xcall (c _) ?_)
  | (with_reducible refine Rets.xcall (k _) ?_)
  | (with_reducible refine DrawLate.intro [] ?_)
  | (simp -dsimp -implicitDefEqProofs [-q5g, *]))
 refine q6r (bytes:=40) Pk.row_len Pk.row_append (none:Option (Acc Pk)) trivial q rfl rfl (by simp; omega) fun o ho hol=>?_
 rename_i nb hnb pb hpb
 refine q6f (q7p ho (Cls.self _ _)) ?_
 have kl:Hid (q50 o=q):=⟨hol⟩
 have kll:(q50 o).length<4096:=by rw [hol]; exact hl
 clear hol
 have g1:=k0w (T:=T.apiPacket) ho (b:=pb) (x:=.arr T.apiPacket p.enc) (by simp [*])
 repeat' (simp -dsimp -implicitDefEqProofs [-q5g, *])
 refine q6r (bytes:=40) Pk.row_len Pk.row_append o ho [p] (by simp) rfl (by omega) fun o2 ho2 hl2=>?_
 refine q6f (q7p ho2 (Cls.self _ _)) ?_
 have kl2:Hid (q50 o2=q++[p]):=⟨by rw [hl2,kl.out]⟩
 clear hl2 kl kll g1 ho
 cases o2 with
 | none=>exact absurd (congrArg List.length kl2.out) (by simp)
 | some a=>
  obtain⟨ha,hab⟩:=ho2
  have hfr:=Frz.acc (T:=T.apiPacket) ha
  have hal:a.l=q++[p]:=kl2.out
  rw [hal] at hfr
  have hle:a.l.length=(q++[p]).length:=by rw [hal]
  replace hfr:=Hid.mk hfr
  simp only [q54] at hab
  clear kl2 hal ha
  have hQ:y2d (some a)=.own a.b 0 a.l.length a.cap:=rfl
  rw [hQ,hle]
  clear hQ hle
  repeat' (simp -dsimp -implicitDefEqProofs [*])
  refine RetView.sees (st':=(a.b,.arr T.apiPacket a.R)::st) (.drop (q9r q5o)) ?_
  have hfr2:=hfr.out
  rw [show (q++[p]).length=q.length+1 by simp] at hfr2
  exact RetView.freeze (.tuple [.agg [.list false (Pk.row (q++[p])) (q.length+1),Lk.lst false ap],.int 0]) (by simp [*]) (.tuple (.cons (.agg (.cons hfr2 (.cons (.refl _) .nil))) (.cons (.refl _) .nil))) (.same ⟨by rw [show q.length+1=(q++[p]).length by simp],rfl⟩)
open Go.Pv
set_option maxRecDepth 100000
set_option maxHeartbeats 8000000
theorem z2a (q:List Pk)(ap:List Lk)(hap:ap.length<=100000)(a b0:Int)(st:q5f):Rets P F.q3n [q9z q ap,.int a,.int b0] st (.bool (decide ((⟨min a b0,max a b0⟩:Lk) ∈ ap))):=by
 have hx:∃ r,r=decide ((⟨min a b0,max a b0⟩:Lk) ∈ ap):=⟨_,rfl⟩
 obtain⟨r,hr⟩:=hx
 rw [<-hr]
 have yes:Hid ((⟨min a b0,max a b0⟩:Lk) ∈ ap->r=true):=⟨fun h=>by rw [hr,decide_eq_true h]⟩
 have no:Hid (¬ (⟨min a b0,max a b0⟩:Lk) ∈ ap->r=false):=⟨fun h=>by rw [hr,decide_eq_false h]⟩
 clear hr
 have e1:(if b0<a then b0 else a)=min a b0:=by rw [Int.min_def]; split <;> split <;> omega
 have e2:(if a<b0 then b0 else a)=max a b0:=by rw [Int.max_def]; split <;> split <;> omega
 have har:=Lk.row_len ap
 refine H.q3n.view q5n rfl rfl ?_
 repeat' (first 
  | (with_reducible refine Fresh.intro fun b hb=>?_) <;> (try simp -dsimp -implicitDefEqProofs [*] at hb)
  | (simp -dsimp -implicitDefEqProofs [*]))
 refine q5h (fun i:Nat=>[(1,.int a),(2,.int b0),(3,.ptr b 0),(7,.int i)]) (fun _=>(b,.arr T.apiNet [Pk.lst false q,Lk.lst false ap])::st) (fun i=>i<=ap.length/\Hid (¬ (⟨min a b0,max a b0⟩:Lk) ∈ ap.take i)) (fun i=>ap.length-i) 0 ⟨Nat.zero_le _,⟨fun h=>by cases h⟩⟩ (by simp) (.refl _) ?_
 rintro i ⟨hi,hI⟩
 by_cases hil:i<ap.length
 case neg=>
  obtain rfl:i=ap.length:=by omega
  rw [List.take_length] at hI
  have e:=no.out hI.out
  clear yes no hI
  subst e
  repeat' (simp -dsimp -implicitDefEqProofs [*])
  exact .drop (st':=st) q5o ⟨rfl,rfl⟩
 have hwi:=q5i (n:=i) (by omega)
 have g0:(Lk.row ap)[i*2]?=some (.int ap[i].a):=q94 Lk.enc 2 Lk.len ap i 0 hil (by omega)
 have G0:=q6v g0
 have g1:(Lk.row ap)[i*2+1]?=some (.int ap[i].b):=q94 Lk.enc 2 Lk.len ap i 1 hil (by omega)
 have G1:=q6v g1
 have hm:=List.getElem_mem hil
 have tk:ap.take (i+1)=ap.take i++[ap[i]]:=List.take_succ_eq_append_getElem hil
 by_cases hx:(⟨min a b0,max a b0⟩:Lk)=ap[i]
 ·have e:=yes.out (by rw [hx]; exact hm)
  have k1:ap[i].a=min a b0:=by rw [<-hx]
  have k2:ap[i].b=max a b0:=by rw [<-hx]
  rw [k1] at g0
  rw [k2] at g1
  simp only [k1] at G0
  simp only [k2] at G1
  clear yes no hI tk hm hx k1 k2
  subst e
  repeat' (simp -dsimp -implicitDefEqProofs [*])
  exact .drop (st':=st) q5o ⟨rfl,rfl⟩
 ·have hn:Hid (¬ (⟨min a b0,max a b0⟩:Lk) ∈ ap.take (i+1)):=⟨fun h=>by
   rw [tk] at h
   rcases List.mem_append.1 h with h | h
   ·exact hI.out h
   ·exact hx (List.mem_singleton.1 h)⟩
  have hne:¬ (ap[i].a=min a b0/\ap[i].b=max a b0):=fun⟨h1,h2⟩=>hx (by cases hy:ap[i]; rw [hy] at h1 h2; simp only at h1 h2; rw [h1,h2])
  clear yes no hI tk hm hx
  generalize ap[i]=y at *
  by_cases k1:y.a=min a b0
  ·have k2:¬ y.b=max a b0:=fun h=>hne ⟨k1,h⟩
   clear hne
   rw [k1] at g0
   simp only [k1] at G0
   clear k1
   repeat' (simp -dsimp -implicitDefEqProofs [*])
   exact Next.intro (i+1) ⟨by omega,hn⟩ (by omega) (by simp) q5o
  ·clear hne
   repeat' (simp -dsimp -implicitDefEqProofs [*])
   exact Next.intro (i+1) ⟨by omega,hn⟩ (by omega) (by simp) q5o
open Go.Pv
set_option maxRecDepth 100000
set_option maxHeartbeats 8000000
theorem k0l (q:List Pk)(ap:List Lk)(hl:q.length<=4096)(i:Nat)(hi:i<q.length)(st:q5f):Rets P F.q2q [q9z q ap,.int i] st (q9z (q.eraseIdx i) ap):=by
 have hwi:IntKind.i64.wrap ((i:Int)+1)=((i+1:Nat):Int):=q5i (n:=i) (by omega)
 have hqr:=Pk.row_len q
 have hx:q.length*3-(i+1)*3=(q.length-(i+1))*3:=by omega
 have e1:=Pk.row_take q i
 have e2:=Pk.row_drop q (i+1)
 have l1:(q.take i).length=i:=by rw [List.length_take]; omega
 have l2:(q.drop (i+1)).length=q.length-(i+1):=List.length_drop ..
 have ee:=List.eraseIdx_eq_take_drop_succ (l:=q) (i:=i)
 refine H.q2q.view q5n rfl rfl ?_
 repeat' (first 
  | (with_reducible refine Fresh.intro fun b hb=>?_) <;> (try simp -dsimp -implicitDefEqProofs [*] at hb)
  | (with_reducible refine DrawLate.intro [] ?_)
  | ((with_reducible refine q5v ?_ fun hk=>?_); omega)
  | (simp -dsimp -implicitDefEqProofs [-q5g, *]))
 refine q6r (bytes:=40) Pk.row_len Pk.row_append (none:Option (Acc Pk)) trivial (q.take i) rfl l1 (by simp; omega) fun o ho hol=>?_
 refine q6f (q7p ho (Cls.self _ _)) ?_
 have kl:Hid (q50 o=q.take i):=⟨hol⟩
 have kll:Hid ((q50 o).length=i):=⟨by rw [hol]; exact l1⟩
 clear hol
 repeat' (simp -dsimp -implicitDefEqProofs [-q5g, *])
 refine q6r (bytes:=40) Pk.row_len Pk.row_append o ho (q.drop (i+1)) rfl l2 (by rw [kll.out]; omega) fun o2 ho2 hl2=>?_
 refine q6f (q7p ho2 (Cls.self _ _)) ?_
 have kl2:Hid (q50 o2=q.eraseIdx i):=⟨by rw [hl2,kl.out,ee]⟩
 clear hl2 kl kll ho ee
 cases o2 with
 | none=>
  have hz:q.eraseIdx i=[]:=kl2.out.symm
  rw [hz]
  have hQ:y2d (none:Option (Acc Pk))=.list true [] 0:=rfl
  rw [hQ]
  clear kl2 hQ
  repeat' (simp -dsimp -implicitDefEqProofs [*])
  exact RetView.sees (SeesV.le (q:=q9z [] ap) (PLeV.aggs ⟨.loose,.refl _,trivial⟩)) (RetView.drop (st':=st) q5o ⟨rfl,rfl⟩)
 | some a=>
  obtain⟨ha,hab⟩:=ho2
  have hfr:=Frz.acc (T:=T.apiPacket) ha
  have hal:a.l=q.eraseIdx i:=kl2.out
  rw [hal] at hfr
  have hle:a.l.length=(q.eraseIdx i).length:=by rw [hal]
  replace hfr:=Hid.mk hfr
  simp only [q54] at hab
  clear kl2 hal ha
  have hQ:y2d (some a)=.own a.b 0 a.l.length a.cap:=rfl
  rw [hQ,hle]
  clear hQ hle
  generalize q.eraseIdx i=q2 at *
  repeat' (simp -dsimp -implicitDefEqProofs [*])
  refine RetView.sees (st':=(a.b,.arr T.apiPacket a.R)::st) (.drop (q9r q5o)) ?_
  exact RetView.freeze (q9z q2 ap) (by simp [*]) (.agg (.cons hfr.out (.cons (.refl _) .nil))) (.same ⟨rfl,rfl⟩)
open Go.Pv Go.Pv.Cd
set_option maxRecDepth 100000
set_option maxHeartbeats 8000000
theorem k3g (peers:List (List Note))(Q:List Pk)(ap:List Lk)(hp:peers.length<=24->∀ l ∈ peers,l.length<=100000)(hQ:Q.length<=100000)(hd:∀ p ∈ Q,p.d.length<=1000)(hap:ap.length<=100000)(r:Bool)(hr:r=true ↔ k6d peers Q ap)(st:q5f) :
  Rets P F.q1w [.agg (q6j peers Q ap)] st (.int (if r=true then 0 else 580)):=by
 have hR:∃ R:Int,R=if r=true then 0 else 580:=⟨_,rfl⟩
 obtain⟨R,hR⟩:=hR
 have no:Hid (¬ k6d peers Q ap->R=580):=⟨fun h=>by rw [hR,if_neg fun e=>h (hr.1 e)]⟩
 have yes:Hid (k6d peers Q ap->R=0):=⟨fun h=>by rw [hR,if_pos (hr.2 h)]⟩
 rw [<-hR]
 clear hR hr
 unfold q6j
 have hpl:=q71 peers
 have hqr:=Pk.row_len Q
 refine H.q1w.view q5n rfl rfl ?_
 by_cases h1:1<=peers.length
 case neg=>
  have e:=no.out fun h=>h1 h.1.1
  have h2:(peers.length:Int)<1:=by omega
  clear no yes hp hd
  subst e
  repeat' (first 
   | (with_reducible refine Fresh.intro fun b hb=>?_) <;> (try simp -dsimp -implicitDefEqProofs [*] at hb)
   | (simp -dsimp -implicitDefEqProofs [*]))
  exact .drop (st':=st) q5o ⟨rfl,rfl⟩
 by_cases h2:peers.length<=24
 case neg=>
  have e:=no.out fun h=>h2 h.1.2
  have h3:(24:Int)<peers.length:=by omega
  clear no yes hp hd
  subst e
  repeat' (first 
   | (with_reducible refine Fresh.intro fun b hb=>?_) <;> (try simp -dsimp -implicitDefEqProofs [*] at hb)
   | (with_reducible refine And.intro (fun h=>?_) (fun h=>?_)) <;> (try (exfalso; omega))
   | (simp -dsimp -implicitDefEqProofs [*]))
  exact .drop (st':=st) q5o ⟨rfl,rfl⟩
 by_cases h3:q8o Q ap
 case neg=>
  have c:=fun st=>q8g Q hQ ap hap false ⟨(fun h=>by cases h),fun h=>absurd h h3⟩ st
  rw [if_neg (by decide)] at c
  have e:=no.out fun h=>h3 h.2.1
  clear no yes hp hd h3
  subst e
  repeat' (first 
   | (with_reducible refine Fresh.intro fun b hb=>?_) <;> (try simp -dsimp -implicitDefEqProofs [*] at hb)
   | (with_reducible refine Rets.xcall (c _) ?_)
   | (with_reducible refine And.intro (fun h=>?_) (fun h=>?_)) <;> (try (exfalso; omega))
   | (simp -dsimp -implicitDefEqProofs [*]))
  exact .drop (st':=st) q5o ⟨rfl,rfl⟩
 have c:=fun st=>q8g Q hQ ap hap true ⟨fun _=>h3,fun _=>rfl⟩ st
 rw [if_pos rfl] at c
 replace hp:=Hid.mk (hp h2)
 replace hd:=Hid.mk hd
 have no1:Hid (¬ k42 peers->R=580):=⟨fun h=>no.out fun h2=>h h2.2.2.1⟩
 have no2:Hid (¬ (∀ p ∈ Q,z9k peers.length p)->R=580):=⟨fun h=>no.out fun h2=>h h2.2.2.2⟩
 have yes1:=Hid.mk fun a b=>yes.out ⟨⟨h1,h2⟩,h3,a,b⟩
 clear no yes h3
 repeat' (first 
  | (with_reducible refine Fresh.intro fun b hb=>?_) <;> (try simp -dsimp -implicitDefEqProofs [*] at hb)
  | (with_reducible refine Rets.xcall (c _) ?_)
  | (with_reducible refine And.intro (fun h=>?_) (fun h=>?_)) <;> (try (exfalso; omega))
  | (simp -dsimp -implicitDefEqProofs [*]))
 clear c
 refine q5h (fun i:Nat=>[(1,.ptr b 0),(3,.int i)]) (fun _=>(b,.arr T.apiRoom [.list false (prR peers) peers.length,Pk.lst false Q,Lk.lst false ap])::st) (fun i=>i<=peers.length/\Hid (k42 (peers.take i))) (fun i=>peers.length-i) 0 ⟨Nat.zero_le _,⟨fun _ h=>by cases h⟩⟩ (by simp) (.refl _) ?_
 rintro i ⟨hi,hI⟩
 by_cases hil:i<peers.length
 ·have hwi:=q5i (n:=i) (by omega)
  have g1:=k3f hil
  have G1:=q6v g1
  have hx:=hp.out _ (List.getElem_mem hil)
  by_cases hv:Rise q6p okN peers[i]/\peers[i].length<=4096
  ·have v:=fun st=>k9v peers[i] hx true ⟨fun _=>hv,fun _=>rfl⟩ st
   have hn:=Hid.mk (k7u hil hI.out hv)
   obtain⟨l,hl⟩:∃ l,l=peers[i]:=⟨_,rfl⟩
   rw [<-hl] at g1 v
   simp only [<-hl] at G1
   have s1:=z33 g1
   clear hl hx hI hv no1 no2 yes1
   repeat' (first 
    | (with_reducible refine Rets.xcall (v _) ?_)
    | (simp -dsimp -implicitDefEqProofs [*]))
   exact Next.intro (i+1) ⟨by omega,hn⟩ (by omega) (by simp) q5o
  ·have v:=fun st=>k9v peers[i] hx false ⟨(fun h=>by cases h),fun h=>absurd h hv⟩ st
   have e:=no1.out fun h=>hv (h _ (List.getElem_mem hil))
   obtain⟨l,hl⟩:∃ l,l=peers[i]:=⟨_,rfl⟩
   rw [<-hl] at g1 v
   simp only [<-hl] at G1
   have s1:=z33 g1
   clear hl hx hI hv no1 no2 yes1
   subst e
   repeat' (first 
    | (with_reducible refine Rets.xcall (v _) ?_)
    | (simp -dsimp -implicitDefEqProofs [*]))
   exact .drop (st':=st) q5o ⟨rfl,rfl⟩
 obtain rfl:i=peers.length:=by omega
 rw [List.take_length] at hI
 replace yes1:=Hid.mk (yes1.out hI.out)
 clear hp hI no1
 repeat' (simp -dsimp -implicitDefEqProofs [*])
 refine q5h (fun j:Nat=>[(1,.ptr b 0),(4,.int j)]) (fun _=>(b,.arr T.apiRoom [.list false (prR peers) peers.length,Pk.lst false Q,Lk.lst false ap])::st) (fun j=>j<=Q.length/\Hid (∀ p ∈ Q.take j,z9k peers.length p)) (fun j=>Q.length-j) 0 ⟨Nat.zero_le _,⟨fun _ h=>by cases h⟩⟩ (by simp) (.refl _) ?_
 rintro j ⟨hj,hI⟩
 by_cases hjQ:j<Q.length
 case neg=>
  obtain rfl:j=Q.length:=by omega
  rw [List.take_length] at hI
  have e:=yes1.out hI.out
  clear hI yes1 no2 hd
  subst e
  repeat' (simp -dsimp -implicitDefEqProofs [*])
  all_goals exact RetView.drop (st':=st) q5o ⟨rfl,rfl⟩
 have hwj:=q5i (n:=j) (by omega)
 have hs:=Pk.row_sub Q j hjQ
 have rd:=fun st=>k7t Q[j].d (hd.out _ (List.getElem_mem hjQ)) st
 have go:Hid (z9k peers.length Q[j]->∀ p ∈ Q.take (j+1),z9k peers.length p):=⟨z16 hjQ hI.out⟩
 have bad:Hid (¬ z9k peers.length Q[j]->R=580):=⟨fun h=>no2.out fun h2=>h (h2 _ (List.getElem_mem hjQ))⟩
 clear hI yes1 no2 hd
 generalize Q[j]=x at *
 obtain⟨xa,xb,xd⟩:=x
 simp only at rd
 repeat' (first 
  | (with_reducible refine Fresh.intro fun b hb=>?_) <;> (try simp -dsimp -implicitDefEqProofs [*] at hb)
  | (simp -dsimp -implicitDefEqProofs [*]))
 refine q5k (rd _) ?_
 clear rd
 rintro e s ⟨n,ok,rfl,rfl,hn⟩
 rw [q5x]
 cases hx:q8f xd with
 | none=>
  rw [hx] at hn
  simp only at hn
  have e:=bad.out fun h=>by obtain⟨⟨n,hn⟩, -⟩:=h; simp only at hn; rw [hx] at hn; cases hn
  clear bad go hx
  subst hn
  subst e
  repeat' (first 
   | (with_reducible refine Fresh.intro fun b hb=>?_) <;> (try simp -dsimp -implicitDefEqProofs [*] at hb)
   | (simp -dsimp -implicitDefEqProofs [*]))
  all_goals exact RetView.drop (st':=st) q5o ⟨rfl,rfl⟩
 | some y=>
  rw [hx] at hn
  simp only at hn
  obtain⟨h5, -⟩:=hn
  subst h5
  by_cases ha:xa<peers.length
  case neg=>
   have e:=bad.out fun h=>ha h.2.1
   have ha2:(peers.length:Int)<=xa:=by omega
   clear bad go hx
   subst e
   repeat' (first 
    | (with_reducible refine Fresh.intro fun b hb=>?_) <;> (try simp -dsimp -implicitDefEqProofs [*] at hb)
    | (simp -dsimp -implicitDefEqProofs [*]))
   all_goals exact RetView.drop (st':=st) q5o ⟨rfl,rfl⟩
  have ha2:¬ (peers.length:Int)<=xa:=by omega
  by_cases hm:xb<peers.length
  ·have nx:=Hid.mk (go.out ⟨⟨y,hx⟩,ha,hm⟩)
   have hmx:¬ (peers.length:Int)<=xb:=by omega
   clear bad go hx hm
   repeat' (first 
    | (with_reducible refine Fresh.intro fun b hb=>?_) <;> (try simp -dsimp -implicitDefEqProofs [*] at hb)
    | (simp -dsimp -implicitDefEqProofs [*]))
   all_goals exact Next.intro (j+1) ⟨by omega,nx⟩ (by omega) (by simp) q5o
  ·have e:=bad.out fun h=>hm h.2.2
   have hmx:(peers.length:Int)<=xb:=by omega
   clear bad go hx hm
   subst e
   repeat' (first 
    | (with_reducible refine Fresh.intro fun b hb=>?_) <;> (try simp -dsimp -implicitDefEqProofs [*] at hb)
    | (simp -dsimp -implicitDefEqProofs [*]))
   all_goals exact RetView.drop (st':=st) q5o ⟨rfl,rfl⟩
theorem k6h {ap:List Lk}(hap:LksOK ap){r:PR Note}{n:Nat}{U:List Note}(h:InR r n U)(hn:1<=n/\n<=24)(hU:U.length<=1000)(hq:r.q.length<=4000)(st:q5f):Rets P F.q1w [.agg (q59 ap r)] st (.int 0):=by
 have ho:=h.roomOK hap hn hU hq
 have:=k3g r.peers (r.q.map q6d) ap (fun _ l hl=>by have:=(h.peer hl).2; omega) (by rw [List.length_map]; omega) (fun p hp=>by
  obtain⟨x,hx,rfl⟩:=List.mem_map.1 hp
  exact k04 (h.q x hx).2.2.2.1) hap.1 true ⟨fun _=>ho,fun _=>rfl⟩ st
 rw [if_pos rfl] at this
 exact this
open Go.Pv Go.Pv.Cd
set_option maxRecDepth 100000
set_option maxHeartbeats 8000000
theorem j9j (l:List (List Note)):(prR l).length=l.length*1:=by rw [q71,Nat.mul_one]
theorem y3e (l m:List (List Note)):prR (l++m)=prR l++prR m:=by unfold prR; rw [List.map_append]
theorem q78 (peers:List (List Note))(x y:PV)(k:Int)(r:Bool)(hr:r=true ↔ 0<=k/\k<peers.length)(st:q5f):Rets P F.q2n [.agg [.list false (prR peers) peers.length,x,y],.int k] st (.bool r):=by
 have hR:r=(decide (0<=k) && decide (k<peers.length)):=by rw [Bool.eq_iff_iff,hr,Bool.and_eq_true,decide_eq_true_eq,decide_eq_true_eq]
 subst hR
 clear hr
 have hpl:=q71 peers
 refine H.q2n.view q5n rfl rfl ?_
 by_cases h1:0<=k
 ·repeat' (first 
   | (with_reducible refine Fresh.intro fun b hb=>?_) <;> (try simp -dsimp -implicitDefEqProofs [*] at hb)
   | (simp -dsimp -implicitDefEqProofs [*]))
  all_goals exact .drop (st':=st) q5o ⟨by simp [h1],rfl⟩
 ·repeat' (first 
   | (with_reducible refine Fresh.intro fun b hb=>?_) <;> (try simp -dsimp -implicitDefEqProofs [*] at hb)
   | (simp -dsimp -implicitDefEqProofs [*]))
  all_goals exact .drop (st':=st) q5o ⟨by simp [h1],rfl⟩
theorem k6i (ap:List Lk){r:PR Note}{n:Nat}{U:List Note}(h:InR r n U)(hn:n<=24)(hU:U.length<=1000)(i:Nat)(hi:i<n)(x:Note)(hx:okN x)(st:q5f) :
  Rets P F.q20 [.agg (q59 ap r),.int i,x.pv] st (.tuple [.agg (q59 ap (r.learn q6p i x)),.int 0]):=by
 have hlen:=h.len
 have hil:i<r.peers.length:=by omega
 have hp:=h.peer (List.getElem_mem hil)
 have lr:=fun st=>z9u r.peers[i] hp.1 (by omega) x hx st
 have e:(r.learn q6p i x).peers=r.peers.set i (k78 q6p r.peers[i] x):=by
  show r.peers.set i (k78 q6p (r.know i) x)=_
  unfold PR.know
  rw [List.getD_eq_getElem?_getD,List.getElem?_eq_getElem hil]
  rfl
 have e2:(r.learn q6p i x).q=r.q:=rfl
 unfold q59 q6j
 rw [e,e2,List.length_set]
 clear e e2 h hp
 have g1:=k3f hil
 have G1:=q6v g1
 have hset:∀ l' C,(prR r.peers++C).set i (Note.lst false l')=prR (r.peers.set i l')++C:=fun l' C=>by
  rw [List.set_append_left _ _ (by rw [q71]; exact hil)]
  unfold prR
  rw [List.map_set]
 generalize k78 q6p r.peers[i] x=l2 at *
 generalize r.peers[i]=l at *
 generalize r.q.map q6d=Q at *
 generalize r.peers=peers at *
 have hpl:=q71 peers
 replace hset:=Hid.mk hset
 subst hlen
 refine H.q20.view q5n rfl rfl ?_
 repeat' (first 
  | (with_reducible refine Fresh.intro fun b hb=>?_) <;> (try simp -dsimp -implicitDefEqProofs [*] at hb)
  | (with_reducible refine Rets.xcall (lr _) ?_)
  | (with_reducible refine Lit.imm ?_)
  | (with_reducible refine DrawLate.intro [] ?_)
  | (simp -dsimp -implicitDefEqProofs [-q5g, *]))
 refine q6r (bytes:=24) j9j y3e (none:Option (Acc (List Note))) trivial peers rfl rfl (by simp; omega) fun o ho hol=>?_
 cases o with
 | none=>exact absurd (congrArg List.length hol) (by simp; omega)
 | some a=>
  obtain⟨ha,hab⟩:=ho
  obtain⟨al,ab,acap,aR⟩:=a
  have hal:al=peers:=hol
  subst hal
  obtain⟨hc1,hc2, -,hrow⟩:=ha
  simp only [Nat.mul_one] at hc1 hc2 hrow hab
  have hR:aR=prR al++aR.drop al.length:=by
   conv=>lhs; rw [<-List.take_append_drop al.length aR]
   rw [hrow]
  generalize aR.drop al.length=C at *
  subst hR
  have hQ:y2d (some (⟨al,ab,acap,prR al++C⟩:Acc (List Note)))=.own ab 0 al.length acap:=rfl
  have hS:∀ st,q6e T.apiPeer st (some (⟨al,ab,acap,prR al++C⟩:Acc (List Note)))=(ab,.arr T.apiPeer (prR al++C))::st:=fun _=>rfl
  rw [hQ,hS]
  have hs2:=hset.out l2 C
  clear hQ hS hset hol hrow
  simp only [q54] at hab
  repeat' (first 
   | ((with_reducible refine q5v ?_ fun hk=>?_); omega)
   | (simp -dsimp -implicitDefEqProofs [*]))
  have hfr:Frz ab (.arr T.apiPeer (prR (al.set i l2)++C)) (.own ab 0 al.length acap) (.list false (prR (al.set i l2)) al.length):=by
   have:=Frz.own (b:=ab) (o:=.arr T.apiPeer (prR (al.set i l2)++C)) T.apiPeer (prR (al.set i l2)++C) 0 al.length acap 1 rfl hc1 hc2
   rw [List.drop_zero,Nat.mul_one,List.take_left' (by rw [q71,List.length_set])] at this
   exact this
  refine RetView.sees (st':=(ab,.arr T.apiPeer (prR (al.set i l2)++C))::st) (.drop (q9r q5o)) ?_
  exact RetView.freeze (.tuple [.agg [.list false (prR (al.set i l2)) al.length,Pk.lst false Q,Lk.lst false ap],.int 0]) (by simp [*]) (.tuple (.cons (.agg (.cons hfr (.cons (.refl _) (.cons (.refl _) .nil)))) (.cons (.refl _) .nil))) (.same ⟨rfl,rfl⟩)
theorem k6j {ap:List Lk}(hap:LksOK ap){r:PR Note}{m:Nat}{U:List Note}(h:InR r m U)(hm:m<=24)(hq:r.q.length<=3000)(a b:Nat)(x:Note)(hx:q5q x=true)(hab:a<m/\b<m/\a ≠ b)(st:q5f) :
  Rets P F.q2f [.agg (q59 ap r),.int a,.int b,x.pv] st (.tuple [.agg (q59 ap (r.send [(a,b,x)])),.int 0]):=by
 have ms:=fun st=>q96 x hx st
 have hp:pkB (q6d (a,b,x))=true:=by
  have hm2:=k04 hx
  unfold pkB k33 q6d
  simp only [Bool.and_eq_true,decide_eq_true_eq]
  refine⟨⟨⟨?_, ?_⟩, ?_⟩, ?_⟩ <;> omega
 have sd:=fun st=>k7w (r.q.map q6d) ap hap.1 (by rw [List.length_map]; omega) (hap.net (by rw [List.length_map]; omega) (h.pk hm)) (q6d (a,b,x)) hp st
 have e:r.q.map q6d++[q6d (a,b,x)]=(r.send [(a,b,x)]).q.map q6d:=by
  show _=(r.q++[(a,b,x)]).map q6d
  rw [List.map_append]
  rfl
 rw [e] at sd
 have e2:(r.send [(a,b,x)]).peers=r.peers:=rfl
 unfold q59 q6j
 rw [e2]
 clear e e2 h hp hx
 generalize (r.send [(a,b,x)]).q.map q6d=Q2 at *
 generalize r.q.map q6d=Q at *
 generalize r.peers=peers at *
 have hpk:(q6d (a,b,x)).pv=.agg [.int a,.int b,q53 false (msg x)]:=rfl
 rw [hpk] at sd
 refine H.q2f.view q5n rfl rfl ?_
 repeat' (first 
  | (with_reducible refine Fresh.intro fun b hb=>?_) <;> (try simp -dsimp -implicitDefEqProofs [*] at hb)
  | (with_reducible refine q56 (fun _=>ms _) ?_)
  | (with_reducible refine q56 (fun _=>sd _) ?_)
  | (with_reducible refine DrawLate.intro [] ?_)
  | (with_reducible refine q6f ?_ ?_)
  | (with_reducible exact Cls.self _ _)
  | (with_reducible refine q6i ?_ ?_)
  | (simp -dsimp -implicitDefEqProofs [*]))
 exact RetView.drop (st':=st) q5o ⟨rfl,rfl⟩
end Go.Proofs.YtmlmoaimjifpgaaGreat
