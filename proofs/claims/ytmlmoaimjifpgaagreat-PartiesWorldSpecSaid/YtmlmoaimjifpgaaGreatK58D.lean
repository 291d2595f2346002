/- Contests: whether one has few parts. -/
import Derived.Test.YtmlmoaimjifpgaaGreatK58B
import Derived.Test.YtmlmoaimjifpgaaGreatX58B
import Derived.Test.YtmlmoaimjifpgaaGreatR58B
namespace Go.Proofs.YtmlmoaimjifpgaaGreat
open Go.Pv
set_option maxRecDepth 100000
set_option maxHeartbeats 8000000
def FewP (F:Prop)(st:q5c)(e:PEnd)(s:q5c):Prop:=∃ r:Bool,e=.ret (.bool r)/\s=st/\(r=true->F)
theorem FewP.no {F:Prop}{st:q5c}:FewP F st (.ret (.bool false)) st:=⟨false,rfl,rfl,fun h=>nomatch h⟩
theorem FewP.yes {F:Prop}{st:q5c}(h:F)(r:Bool):FewP F st (.ret (.bool r)) st:=⟨r,rfl,rfl,fun _=>h⟩
theorem j3h (x:Rul)(st:q5c):PCalls P F.q36 [.agg x.enc] st (FewP x.Fit st):=by
 have fit:=Hid.mk fun (h1:x.crits.length<=100000) (h2:x.bonus.length<=100000) (h3:x.malus.length<=100000) (h4:x.ties.length<=100000) (h5:x.rounds.length<=100000) (h6:x.prizes.length<=100000) (h7:x.points.length<=100000) (h8:∀ t ∈ x.ties,t.keys.length<=100000) (h9:∀ r ∈ x.rounds,r.score.size<=100000)=>FewP.yes (st:=st) (F:=x.Fit) ⟨h1,h2,h3,h4,h5,h6,h7,h8,h9⟩
 obtain⟨nm,cr,bo,ma,ti,ro,pr,po,be⟩:=x
 simp only [Rul.enc] at *
 have no:=FewP.no (F:=Rul.Fit ⟨nm,cr,bo,ma,ti,ro,pr,po,be⟩) (st:=st)
 have r1:=Tie.row_len ti
 have r2:=Rnd.row_len ro
 refine H.q36.view q5l rfl rfl ?_
 by_cases h1:(70:Int)<cr.length
 ·repeat' (first 
   | (with_reducible refine Fresh.intro fun b hb=>?_) <;> (try simp -dsimp -implicitDefEqProofs [*] at hb)
   | (simp -dsimp -implicitDefEqProofs [*]))
  exact .drop (st':=st) q5m no
 by_cases h2:(70:Int)<bo.length
 ·repeat' (first 
   | (with_reducible refine Fresh.intro fun b hb=>?_) <;> (try simp -dsimp -implicitDefEqProofs [*] at hb)
   | (simp -dsimp -implicitDefEqProofs [*]))
  exact .drop (st':=st) q5m no
 by_cases h3:(70:Int)<ma.length
 ·repeat' (first 
   | (with_reducible refine Fresh.intro fun b hb=>?_) <;> (try simp -dsimp -implicitDefEqProofs [*] at hb)
   | (simp -dsimp -implicitDefEqProofs [*]))
  exact .drop (st':=st) q5m no
 by_cases h4:(20:Int)<ti.length
 ·repeat' (first 
   | (with_reducible refine Fresh.intro fun b hb=>?_) <;> (try simp -dsimp -implicitDefEqProofs [*] at hb)
   | (simp -dsimp -implicitDefEqProofs [*]))
  exact .drop (st':=st) q5m no
 by_cases h5:(12:Int)<ro.length
 ·repeat' (first 
   | (with_reducible refine Fresh.intro fun b hb=>?_) <;> (try simp -dsimp -implicitDefEqProofs [*] at hb)
   | (simp -dsimp -implicitDefEqProofs [*]))
  exact .drop (st':=st) q5m no
 by_cases h6:(70:Int)<pr.length
 ·repeat' (first 
   | (with_reducible refine Fresh.intro fun b hb=>?_) <;> (try simp -dsimp -implicitDefEqProofs [*] at hb)
   | (simp -dsimp -implicitDefEqProofs [*]))
  exact .drop (st':=st) q5m no
 by_cases h7:(70:Int)<po.length
 ·repeat' (first 
   | (with_reducible refine Fresh.intro fun b hb=>?_) <;> (try simp -dsimp -implicitDefEqProofs [*] at hb)
   | (simp -dsimp -implicitDefEqProofs [*]))
  exact .drop (st':=st) q5m no
 repeat' (first 
  | (with_reducible refine Fresh.intro fun b hb=>?_) <;> (try simp -dsimp -implicitDefEqProofs [*] at hb)
  | (simp -dsimp -implicitDefEqProofs [*]))
 refine q5e (fun i:Nat=>[(1,.ptr b 0),(3,.int i)]) (fun _=>(b,.arr T.apiRules [.str nm,Crit.lst false cr,Item.lst false bo,Item.lst false ma,Tie.lst false ti,Rnd.lst false ro,q6l false pr,q6l false po,.int be])::st) (fun i=>i<=ti.length/\Hid (∀ t ∈ ti.take i,t.keys.length<=100000)) (fun i=>ti.length-i) 0 ⟨Nat.zero_le _,⟨fun _ h=>by cases h⟩⟩ (by simp) (.refl _) ?_
 rintro i ⟨hi,hI⟩
 by_cases hil:i<ti.length
 ·have hwi:=q5f (n:=i) (by omega)
  have g2:=Tie.row_keys ti i hil
  have G2:=q6b g2
  by_cases hk:(40:Int)<ti[i].keys.length
  ·obtain⟨ks,hks⟩:∃ ks,ks=ti[i].keys:=⟨_,rfl⟩
   rw [<-hks] at g2 hk
   simp only [<-hks] at G2
   clear hks hI fit
   repeat' (simp -dsimp -implicitDefEqProofs [*])
   exact .drop (st':=st) q5m no
  have hn:Hid (∀ t ∈ ti.take (i+1),t.keys.length<=100000):=⟨fun t ht=>by
   rw [List.take_succ_eq_append_getElem hil] at ht
   rcases List.mem_append.1 ht with h | h
   ·exact hI.out t h
   ·rw [List.mem_singleton] at h
    subst h
    omega⟩
  obtain⟨ks,hks⟩:∃ ks,ks=ti[i].keys:=⟨_,rfl⟩
  rw [<-hks] at g2 hk
  simp only [<-hks] at G2
  clear hks hI fit
  repeat' (simp -dsimp -implicitDefEqProofs [*])
  exact Next.intro (i+1) ⟨by omega,hn⟩ (by omega) (by simp) q5m
 obtain rfl:i=ti.length:=by omega
 rw [List.take_length] at hI
 repeat' (simp -dsimp -implicitDefEqProofs [*])
 refine q5e (fun i:Nat=>[(1,.ptr b 0),(4,.int i)]) (fun _=>(b,.arr T.apiRules [.str nm,Crit.lst false cr,Item.lst false bo,Item.lst false ma,Tie.lst false ti,Rnd.lst false ro,q6l false pr,q6l false po,.int be])::st) (fun i=>i<=ro.length/\Hid (∀ r ∈ ro.take i,r.score.size<=100000)) (fun i=>ro.length-i) 0 ⟨Nat.zero_le _,⟨fun _ h=>by cases h⟩⟩ (by simp) (.refl _) ?_
 rintro i ⟨hi,hJ⟩
 by_cases hil:i<ro.length
 ·have hwi:=q5f (n:=i) (by omega)
  have g:=Rnd.score_sub ro i hil
  have ps:=fun st=>j3c 400 ro[i].score st (by omega)
  have hn:Hid (ro[i].score.size<=400->∀ r ∈ ro.take (i+1),r.score.size<=100000):=⟨fun h0 t ht=>by
   rw [List.take_succ_eq_append_getElem hil] at ht
   rcases List.mem_append.1 ht with h | h
   ·exact hJ.out t h
   ·rw [List.mem_singleton] at h
    subst h
    omega⟩
  generalize ro[i].score=x at *
  repeat' (simp -dsimp -implicitDefEqProofs [*])
  refine q5h (ps _) ?_
  clear ps
  rintro e s ⟨n,rfl,rfl,n1,n2,n3⟩
  rw [q5v]
  by_cases hn4:(400:Int)<n
  ·clear fit hJ hn n3
   repeat' (simp -dsimp -implicitDefEqProofs [*])
   exact .drop (st':=st) q5m no
  have hm:=hn.out (by have:=n3 (by omega); omega)
  replace hm:=Hid.mk hm
  clear fit hJ hn n3
  repeat' (simp -dsimp -implicitDefEqProofs [*])
  exact Next.intro (i+1) ⟨by omega,hm⟩ (by omega) (by simp) q5m
 obtain rfl:i=ro.length:=by omega
 rw [List.take_length] at hJ
 have e:=fit.out (by omega) (by omega) (by omega) (by omega) (by omega) (by omega) (by omega) hI.out hJ.out true
 clear fit hI hJ
 repeat' (simp -dsimp -implicitDefEqProofs [*])
 exact .drop (st':=st) q5m e
theorem j3i (x:Rul)(hw:x.ties.length<=9223372036854775807)(st:q5c):PCalls P F.q35 [.agg x.enc] st (FewP x.Fit st):=by
 have f14:=fun st=>j3h x st
 have no:=FewP.no (F:=x.Fit) (st:=st)
 have yes:=fun (h:x.Fit) r=>FewP.yes (st:=st) h r
 generalize x.Fit=FF at *
 obtain⟨nm,cr,bo,ma,ti,ro,pr,po,be⟩:=x
 simp only [Rul.enc] at *
 have r1:=Tie.row_len ti
 refine H.q35.view q5l rfl rfl ?_
 repeat' (first 
  | (with_reducible refine Fresh.intro fun b hb=>?_) <;> (try simp -dsimp -implicitDefEqProofs [*] at hb)
  | (simp -dsimp -implicitDefEqProofs [*]))
 refine q5e (fun i:Nat=>[(1,.ptr b 0),(3,.int i)]) (fun _=>(b,.arr T.apiRules [.str nm,Crit.lst false cr,Item.lst false bo,Item.lst false ma,Tie.lst false ti,Rnd.lst false ro,q6l false pr,q6l false po,.int be])::st) (fun i=>i<=ti.length) (fun i=>ti.length-i) 0 (Nat.zero_le _) (by simp) (.refl _) ?_
 intro i hi
 by_cases hil:i<ti.length
 ·have hwi:=q5f (n:=i) (by omega)
  have g2:=Tie.row_keys ti i hil
  have G2:=q6b g2
  generalize ti[i].keys=ks at *
  by_cases h4:(4:Int)<ks.length
  ·by_cases h32:(ks.length:Int)<=32
   ·repeat' (simp -dsimp -implicitDefEqProofs [*])
    exact .drop (st':=st) q5m no
   ·repeat' (simp -dsimp -implicitDefEqProofs [*])
    exact Next.intro (i+1) (by omega) (by omega) (by simp) q5m
  ·repeat' (simp -dsimp -implicitDefEqProofs [*])
   exact Next.intro (i+1) (by omega) (by omega) (by simp) q5m
 obtain rfl:i=ti.length:=by omega
 repeat' (simp -dsimp -implicitDefEqProofs [*])
 refine q5h (f14 _) ?_
 rintro e s ⟨r,rfl,rfl,hr⟩
 rw [q5v]
 cases r with
 | false=>
  repeat' (simp -dsimp -implicitDefEqProofs [*])
  exact .drop (st':=st) q5m no
 | true=>
  have y:=yes (hr rfl)
  clear yes hr
  repeat' (first 
   | (with_reducible refine And.intro (fun h=>?_) (fun h=>?_)) <;> (try (exfalso; omega))
   | (simp -dsimp -implicitDefEqProofs [*]))
  all_goals exact .drop (st':=st) q5m (y _)
theorem j3j (c:Con)(hw:c.rules.ties.length<=9223372036854775807)(st:q5c):PCalls P F.q34 [.agg c.enc] st (FewP c.Fit st):=by
 have f15:=fun st=>j3i c.rules hw st
 have no:=FewP.no (F:=c.Fit) (st:=st)
 have fit:=Hid.mk fun (h1:c.rules.Fit) (h2:c.entrants.length<=100000) (h3:c.judges.length<=100000) (h4:c.panels.length<=100000) (h5:∀ x ∈ c.panels,x.length<=100000/\∀ y ∈ x,y.length<=100000)=>FewP.yes (st:=st) (F:=c.Fit) ⟨h1,h2,h3,h4,h5⟩ true
 have g0:=c.subRules
 have g1:=c.get9
 have G1:=q6b g1
 have g2:=c.get10
 have G2:=q6b g2
 have g3:=c.get11
 have G3:=q6b g3
 have hl:=c.len
 have hpr:=z2k c.panels
 have hprl:(z2j c.panels).length=c.panels.length:=List.length_map ..
 unfold z7a at g3 G3
 generalize c.Fit=FF at *
 generalize c.enc=C at *
 generalize z2j c.panels=R at *
 obtain⟨ru,en,ju,pa,se⟩:=c
 simp only at *
 clear hw
 refine H.q34.view q5l rfl rfl ?_
 repeat' (first 
  | (with_reducible refine Fresh.intro fun b hb=>?_) <;> (try simp -dsimp -implicitDefEqProofs [*] at hb)
  | (simp -dsimp -implicitDefEqProofs [*]))
 refine q5h (f15 _) ?_
 clear f15
 rintro e s ⟨r,rfl,rfl,hr⟩
 rw [q5v]
 cases r with
 | false=>
  clear fit hr hpr
  repeat' (simp -dsimp -implicitDefEqProofs [*])
  exact .drop (st':=st) q5m no
 | true=>
 replace fit:=Hid.mk (fit.out (hr rfl))
 clear hr
 by_cases hE:(6:Int)<en.length/\(en.length:Int)<=4096
 ·obtain⟨hE1,hE2⟩:=hE
  clear fit hpr
  repeat' (simp -dsimp -implicitDefEqProofs [*])
  exact .drop (st':=st) q5m no
 by_cases hE2:(5000:Int)<en.length
 ·have hE3:(6:Int)<en.length:=by omega
  have hE4:¬ (en.length:Int)<=4096:=by omega
  clear fit hpr hE
  repeat' (simp -dsimp -implicitDefEqProofs [*])
  exact .drop (st':=st) q5m no
 have hE':¬ (6:Int)<en.length\/((6:Int)<en.length/\¬ (en.length:Int)<=4096):=by omega
 clear hE
 by_cases hJ:(10:Int)<ju.length/\(ju.length:Int)<=256
 ·obtain⟨hJ1,hJ2⟩:=hJ
  clear fit hpr
  rcases hE' with hE |⟨hE,hE3⟩
  all_goals
   repeat' (simp -dsimp -implicitDefEqProofs [*])
   exact .drop (st':=st) q5m no
 by_cases hJ2:(300:Int)<ju.length
 ·have hJ3:(10:Int)<ju.length:=by omega
  have hJ4:¬ (ju.length:Int)<=256:=by omega
  clear fit hpr hJ
  rcases hE' with hE |⟨hE,hE3⟩
  all_goals
   repeat' (simp -dsimp -implicitDefEqProofs [*])
   exact .drop (st':=st) q5m no
 have hJ':¬ (10:Int)<ju.length\/((10:Int)<ju.length/\¬ (ju.length:Int)<=256):=by omega
 clear hJ
 by_cases hP:(12:Int)<pa.length
 ·clear fit hpr
  rcases hE' with hE |⟨hE,hE3⟩ <;> rcases hJ' with hJ |⟨hJ,hJ3⟩
  all_goals
   repeat' (simp -dsimp -implicitDefEqProofs [*])
   exact .drop (st':=st) q5m no
 replace fit:=Hid.mk (fit.out (by omega) (by omega) (by omega))
 rcases hE' with hE |⟨hE,hE3⟩ <;> rcases hJ' with hJ |⟨hJ,hJ3⟩
 all_goals
  repeat' (simp -dsimp -implicitDefEqProofs [*])
  clear hE hJ hE2 hJ2
  refine q5e (fun i:Nat=>[(1,.ptr b 0),(3,.int i)]) (fun _=>(b,.arr T.apiContest C)::st) (fun i=>i<=pa.length/\Hid (∀ x ∈ pa.take i,x.length<=100000/\∀ y ∈ x,y.length<=100000)) (fun i=>pa.length-i) 0 ⟨Nat.zero_le _,⟨fun _ h=>by cases h⟩⟩ (by simp) (.refl _) ?_
  rintro i ⟨hi,hI⟩
  by_cases hil:i<pa.length
  case neg=>
   obtain rfl:i=pa.length:=by omega
   rw [List.take_length] at hI
   have e:=fit.out hI.out
   clear fit hI
   repeat' (simp -dsimp -implicitDefEqProofs [*])
   exact .drop (st':=st) q5m e
  have hwi:=q5f (n:=i) (by omega)
  have g:=hpr i hil
  have G:=q6b g
  have hn:Hid (pa[i].length<=100000->(∀ y ∈ pa[i],y.length<=100000)->∀ x ∈ pa.take (i+1),x.length<=100000/\∀ y ∈ x,y.length<=100000):=⟨fun h1 h2 t ht=>by
   rw [List.take_succ_eq_append_getElem hil] at ht
   rcases List.mem_append.1 ht with h | h
   ·exact hI.out t h
   ·rw [List.mem_singleton] at h
    subst h
    exact⟨h1,h2⟩⟩
  clear fit hI hpr
  generalize pa[i]=x at *
  have hxr:=z69 x
  have hxl:(j3f x).length=x.length:=List.length_map ..
  unfold z98 at g G
  generalize j3f x=X at *
  by_cases h30:(30:Int)<x.length
  ·clear hn hxr
   repeat' (simp -dsimp -implicitDefEqProofs [*])
   exact .drop (st':=st) q5m no
  repeat' (simp -dsimp -implicitDefEqProofs [*])
  refine q5e (fun k:Nat=>[(1,.ptr b 0),(3,.int i),(4,.int k)]) (fun _=>(b,.arr T.apiContest C)::st) (fun k=>k<=x.length/\Hid (∀ y ∈ x.take k,y.length<=100000)) (fun k=>x.length-k) 0 ⟨Nat.zero_le _,⟨fun _ h=>by cases h⟩⟩ (by simp) (.refl _) ?_
  rintro k ⟨hk,hK⟩
  by_cases hkl:k<x.length
  case neg=>
   obtain rfl:k=x.length:=by omega
   rw [List.take_length] at hK
   have hm:=hn.out (by omega) hK.out
   replace hm:=Hid.mk hm
   clear hn hK hxr
   repeat' (simp -dsimp -implicitDefEqProofs [*])
   exact Next.intro (i+1) ⟨by omega,hm⟩ (by omega) (by simp) q5m
  have hwk:=q5f (n:=k) (by omega)
  have q:=hxr k hkl
  have Q:=q6b q
  have hq:Hid (x[k].length<=100000->∀ y ∈ x.take (k+1),y.length<=100000):=⟨fun h1 t ht=>by
   rw [List.take_succ_eq_append_getElem hkl] at ht
   rcases List.mem_append.1 ht with h | h
   ·exact hK.out t h
   ·rw [List.mem_singleton] at h
    subst h
    exact h1⟩
  clear hn hK hxr
  generalize x[k]=y at *
  by_cases h20:(20:Int)<y.length
  ·clear hq
   repeat' (simp -dsimp -implicitDefEqProofs [*])
   exact .drop (st':=st) q5m no
  have hm:=hq.out (by omega)
  replace hm:=Hid.mk hm
  clear hq
  repeat' (simp -dsimp -implicitDefEqProofs [*])
  exact Next.intro (k+1) ⟨by omega,hm⟩ (by omega) (by simp) q5m
open Go.Pv Go.Pv.Cd
set_option maxRecDepth 100000
set_option maxHeartbeats 4000000
theorem j0a {α:Type}(key:α->Int)(n:Int):∀ (l:List α) (i:Nat) (h:i<l.length),i<k2l key l n->key l[i]<n
 | [],i,h,_=>by simp at h
 | y::l,i,h,hp=>by
  unfold k2l at hp
  rw [List.takeWhile_cons] at hp
  split at hp
  ·rename_i hy
   cases i with
   | zero=>simpa using hy
   | succ i=>exact j0a key n l i (by simpa using h) (by unfold k2l; simpa using hp)
  ·simp at hp
theorem j0b {α:Type}(key:α->Int)(n:Int):∀ (l:List α) (h:k2l key l n<l.length),¬ key (l[k2l key l n]'h)<n
 | [],h=>by simp at h
 | y::l,h=>by
  by_cases hy:key y<n
  ·have e:k2l key (y::l) n=k2l key l n+1:=by
    unfold k2l
    rw [List.takeWhile_cons,if_pos (by simpa using hy)]
    rfl
   have ih:=j0b key n l (by rw [e] at h; simpa using h)
   simp only [e,List.getElem_cons_succ]
   exact ih
  ·have e:k2l key (y::l) n=0:=by
    unfold k2l
    rw [List.takeWhile_cons,if_neg (by simpa using hy)]
    rfl
   simp only [e,List.getElem_cons_zero]
   exact hy
theorem z4i (l:List Event)(hl:l.length<=1000)(x:Event)(st:q5c):Rets P F.q3e [Event.lst false l,x.pv] st (Event.lst false (k20 k9y l x)):=by
 have hrl:=Event.row_len l
 have hpos:=j5j (key:=k9y) l x.no
 have hlt:=j0a k9y x.no l
 have hge:=j0b k9y x.no l
 have hput:k20 k9y l x=if (l[k2l k9y l x.no]?.map k9y)=some x.no then l else l.take (k2l k9y l x.no)++x::l.drop (k2l k9y l x.no):=rfl
 obtain⟨p,hp⟩:∃ p,p=k2l k9y l x.no:=⟨_,rfl⟩
 rw [<-hp] at hpos hlt hput
 have hge2:∀ h:p<l.length,¬ l[p].no<x.no:=by subst hp; exact hge
 clear hge hp
 have hx24:l.length*9-p*9=(l.length-p)*9:=by omega
 refine H.q3e.view q5l rfl rfl ?_
 repeat' (first 
  | (with_reducible refine Fresh.intro fun b hb=>?_) <;> (try simp -dsimp -implicitDefEqProofs [*] at hb)
  | (simp -dsimp -implicitDefEqProofs [*]))
 refine q5e (fun i:Nat=>[(3,.ptr b 0),(0,Event.lst false l),(5,.int i),(4,.nil)]) (fun _=>(b,.arr T.apiEvent x.enc)::st) (fun i=>i<=p) (fun i=>p-i) 0 (Nat.zero_le _) (by simp) (.refl _) ?_
 intro i hi
 by_cases hip:i<p
 ·have hil:i<l.length:=by omega
  have hwi:=q5f (n:=i) (by omega)
  have hlti:l[i].no<x.no:=hlt i hil hip
  clear hlt hge2 hput
  repeat' (simp -dsimp -implicitDefEqProofs [*])
  exact Next.intro (i+1) (by omega) (by omega) (by simp) q5m
 obtain rfl:i=p:=by omega
 by_cases hil:i<l.length
 ·have hgi:=hge2 hil
  rw [List.getElem?_eq_getElem hil] at hput
  clear hlt hge2
  by_cases hy:l[i].no=x.no
  ·have hput2:k20 k9y l x=l:=by rw [hput,if_pos]; exact congrArg some hy
   rw [hput2]
   clear hput hput2
   repeat' (simp -dsimp -implicitDefEqProofs [*])
   exact RetView.drop (st':=st) q5m ⟨rfl,rfl⟩
  ·have hput2:k20 k9y l x=l.take i++x::l.drop i:=by rw [hput,if_neg]; exact fun h=>hy (Option.some.inj h)
   rw [hput2]
   clear hput hput2
   repeat' (first 
    | (with_reducible refine DrawLate.intro [] ?_)
    | (simp -dsimp -implicitDefEqProofs [-q5d, *]))
   have rt:=And.intro (Event.row_take l i).symm (Event.row_drop l i).symm
   have lt:(l.take i).length=i:=by rw [List.length_take]; omega
   have ld:(l.drop i).length=l.length-i:=List.length_drop ..
   refine q51 (bytes:=72) Event.row_len Event.row_append (none:Option (Acc Event)) trivial (l.take i) rt.1 lt (by simp; omega) fun o ho hol=>?_
   refine q59 (q6h ho (Cls.self _ _)) ?_
   have kl:Hid (q5u o=l.take i):=⟨hol⟩
   have kll:Hid ((q5u o).length=i):=⟨by rw [hol]; exact lt⟩
   clear hol
   repeat' (simp -dsimp -implicitDefEqProofs [-q5d, *])
   refine q51 (bytes:=72) Event.row_len Event.row_append o ho [x] (by simp) rfl (by rw [kll.out]; omega) fun o2 ho2 hl2=>?_
   refine q59 (q6h ho2 (Cls.self _ _)) ?_
   have kl2:Hid (q5u o2=l.take i++[x]):=⟨by rw [hl2,kl.out]⟩
   have kll2:Hid ((q5u o2).length=i+1):=⟨by rw [hl2,List.length_append,kll.out]; rfl⟩
   clear hl2
   repeat' (simp -dsimp -implicitDefEqProofs [-q5d, *])
   refine q51 (bytes:=72) Event.row_len Event.row_append o2 ho2 (l.drop i) rt.2 ld (by rw [kll2.out]; omega) fun o3 ho3 hl3=>?_
   refine q59 (q6h ho3 (Cls.self _ _)) ?_
   have kl3:Hid (q5u o3=l.take i++x::l.drop i):=⟨by rw [hl3,kl2.out]; simp⟩
   clear hl3
   repeat' (simp -dsimp -implicitDefEqProofs [-q5d, *])
   exact RetView.accQ1 rfl ho3 (.drop q5m ⟨by rw [kl3.out],rfl⟩)
 ·rw [List.getElem?_eq_none (by omega)] at hput
  have hput2:k20 k9y l x=l.take i++x::l.drop i:=by rw [hput,if_neg]; exact fun h=>by cases h
  rw [hput2]
  clear hlt hge2 hput hput2
  obtain rfl:i=l.length:=by omega
  repeat' (first 
   | (with_reducible refine DrawLate.intro [] ?_)
   | (simp -dsimp -implicitDefEqProofs [-q5d, *]))
  have rt:=And.intro (Event.row_take l l.length).symm (Event.row_drop l l.length).symm
  have lt:(l.take l.length).length=l.length:=by rw [List.length_take]; omega
  have ld:(l.drop l.length).length=l.length-l.length:=List.length_drop ..
  refine q51 (bytes:=72) Event.row_len Event.row_append (none:Option (Acc Event)) trivial (l.take l.length) rt.1 lt (by simp; omega) fun o ho hol=>?_
  refine q59 (q6h ho (Cls.self _ _)) ?_
  have kl:Hid (q5u o=l.take l.length):=⟨hol⟩
  have kll:Hid ((q5u o).length=l.length):=⟨by rw [hol]; exact lt⟩
  clear hol
  repeat' (simp -dsimp -implicitDefEqProofs [-q5d, *])
  refine q51 (bytes:=72) Event.row_len Event.row_append o ho [x] (by simp) rfl (by rw [kll.out]; omega) fun o2 ho2 hl2=>?_
  refine q59 (q6h ho2 (Cls.self _ _)) ?_
  have kl2:Hid (q5u o2=l.take l.length++[x]):=⟨by rw [hl2,kl.out]⟩
  have kll2:Hid ((q5u o2).length=l.length+1):=⟨by rw [hl2,List.length_append,kll.out]; rfl⟩
  clear hl2
  repeat' (simp -dsimp -implicitDefEqProofs [-q5d, *])
  refine q51 (bytes:=72) Event.row_len Event.row_append o2 ho2 (l.drop l.length) rt.2 (by rw [ld]; omega) (by rw [kll2.out]; omega) fun o3 ho3 hl3=>?_
  refine q59 (q6h ho3 (Cls.self _ _)) ?_
  have kl3:Hid (q5u o3=l.take l.length++x::l.drop l.length):=⟨by rw [hl3,kl2.out]; simp⟩
  clear hl3
  repeat' (simp -dsimp -implicitDefEqProofs [-q5d, *])
  exact RetView.accQ1 rfl ho3 (.drop q5m ⟨by rw [kl3.out]; simp,rfl⟩)
def k2a:List Event->PV
 | []=>.nil
 | x::l=>Event.lst false (x::l)
theorem k96 (l:List Event):PLe (k2a l) (Event.lst false l):=by
 cases l with
 | nil=>exact .nil1
 | cons x l=>exact .refl _
theorem z01 (l:List Event):(k2a l).cells=some [k2a l]:=by cases l <;> rfl
theorem j0c {l:List Event}(h:l ≠ []):k2a l=Event.lst false l:=by
 cases l with
 | nil=>exact absurd rfl h
 | cons x l=>rfl
theorem j0d (l:List Event)(x:Event):k20 k9y l x ≠ []:=by
 unfold k20
 split
 ·rename_i h
  rintro rfl
  simp at h
 ·simp
theorem z7b (l:List Event)(hl:l.length<=1000)(x:Event)(st:q5c):Rets P F.q3e [k2a l,x.pv] st (k2a (k20 k9y l x)):=by
 rw [j0c (j0d l x)]
 exact Rets.args (qs:=[Event.lst false l,x.pv]) ⟨k96 l,.refl _,trivial⟩ (z4i l hl x st)
open Go.Pv Go.Pv.Cd
set_option maxRecDepth 100000
set_option maxHeartbeats 4000000
theorem k7y (l:List Decision)(hl:l.length<=1000)(x:Decision)(st:q5c):Rets P F.q2r [Decision.lst false l,x.pv] st (Decision.lst false (k20 k9z l x)):=by
 have hrl:=Decision.row_len l
 have hpos:=j5j (key:=k9z) l x.no
 have hlt:=j0a k9z x.no l
 have hge:=j0b k9z x.no l
 have hput:k20 k9z l x=if (l[k2l k9z l x.no]?.map k9z)=some x.no then l else l.take (k2l k9z l x.no)++x::l.drop (k2l k9z l x.no):=rfl
 obtain⟨p,hp⟩:∃ p,p=k2l k9z l x.no:=⟨_,rfl⟩
 rw [<-hp] at hpos hlt hput
 have hge2:∀ h:p<l.length,¬ l[p].no<x.no:=by subst hp; exact hge
 clear hge hp
 have hx24:l.length*14-p*14=(l.length-p)*14:=by omega
 refine H.q2r.view q5l rfl rfl ?_
 repeat' (first 
  | (with_reducible refine Fresh.intro fun b hb=>?_) <;> (try simp -dsimp -implicitDefEqProofs [*] at hb)
  | (simp -dsimp -implicitDefEqProofs [*]))
 refine q5e (fun i:Nat=>[(3,.ptr b 0),(0,Decision.lst false l),(5,.int i),(4,.nil)]) (fun _=>(b,.arr T.apiDecision x.enc)::st) (fun i=>i<=p) (fun i=>p-i) 0 (Nat.zero_le _) (by simp) (.refl _) ?_
 intro i hi
 by_cases hip:i<p
 ·have hil:i<l.length:=by omega
  have hwi:=q5f (n:=i) (by omega)
  have hlti:l[i].no<x.no:=hlt i hil hip
  clear hlt hge2 hput
  repeat' (simp -dsimp -implicitDefEqProofs [*])
  exact Next.intro (i+1) (by omega) (by omega) (by simp) q5m
 obtain rfl:i=p:=by omega
 by_cases hil:i<l.length
 ·have hgi:=hge2 hil
  rw [List.getElem?_eq_getElem hil] at hput
  clear hlt hge2
  by_cases hy:l[i].no=x.no
  ·have hput2:k20 k9z l x=l:=by rw [hput,if_pos]; exact congrArg some hy
   rw [hput2]
   clear hput hput2
   repeat' (simp -dsimp -implicitDefEqProofs [*])
   exact RetView.drop (st':=st) q5m ⟨rfl,rfl⟩
  ·have hput2:k20 k9z l x=l.take i++x::l.drop i:=by rw [hput,if_neg]; exact fun h=>hy (Option.some.inj h)
   rw [hput2]
   clear hput hput2
   repeat' (first 
    | (with_reducible refine DrawLate.intro [] ?_)
    | (simp -dsimp -implicitDefEqProofs [-q5d, *]))
   have rt:=And.intro (Decision.row_take l i).symm (Decision.row_drop l i).symm
   have lt:(l.take i).length=i:=by rw [List.length_take]; omega
   have ld:(l.drop i).length=l.length-i:=List.length_drop ..
   refine q51 (bytes:=112) Decision.row_len Decision.row_append (none:Option (Acc Decision)) trivial (l.take i) rt.1 lt (by simp; omega) fun o ho hol=>?_
   refine q59 (q6h ho (Cls.self _ _)) ?_
   have kl:Hid (q5u o=l.take i):=⟨hol⟩
   have kll:Hid ((q5u o).length=i):=⟨by rw [hol]; exact lt⟩
   clear hol
   repeat' (simp -dsimp -implicitDefEqProofs [-q5d, *])
   refine q51 (bytes:=112) Decision.row_len Decision.row_append o ho [x] (by simp) rfl (by rw [kll.out]; omega) fun o2 ho2 hl2=>?_
   refine q59 (q6h ho2 (Cls.self _ _)) ?_
   have kl2:Hid (q5u o2=l.take i++[x]):=⟨by rw [hl2,kl.out]⟩
   have kll2:Hid ((q5u o2).length=i+1):=⟨by rw [hl2,List.length_append,kll.out]; rfl⟩
   clear hl2
   repeat' (simp -dsimp -implicitDefEqProofs [-q5d, *])
   refine q51 (bytes:=112) Decision.row_len Decision.row_append o2 ho2 (l.drop i) rt.2 ld (by rw [kll2.out]; omega) fun o3 ho3 hl3=>?_
   refine q59 (q6h ho3 (Cls.self _ _)) ?_
   have kl3:Hid (q5u o3=l.take i++x::l.drop i):=⟨by rw [hl3,kl2.out]; simp⟩
   clear hl3
   repeat' (simp -dsimp -implicitDefEqProofs [-q5d, *])
   exact RetView.accQ1 rfl ho3 (.drop q5m ⟨by rw [kl3.out],rfl⟩)
 ·rw [List.getElem?_eq_none (by omega)] at hput
  have hput2:k20 k9z l x=l.take i++x::l.drop i:=by rw [hput,if_neg]; exact fun h=>by cases h
  rw [hput2]
  clear hlt hge2 hput hput2
  obtain rfl:i=l.length:=by omega
  repeat' (first 
   | (with_reducible refine DrawLate.intro [] ?_)
   | (simp -dsimp -implicitDefEqProofs [-q5d, *]))
  have rt:=And.intro (Decision.row_take l l.length).symm (Decision.row_drop l l.length).symm
  have lt:(l.take l.length).length=l.length:=by rw [List.length_take]; omega
  have ld:(l.drop l.length).length=l.length-l.length:=List.length_drop ..
  refine q51 (bytes:=112) Decision.row_len Decision.row_append (none:Option (Acc Decision)) trivial (l.take l.length) rt.1 lt (by simp; omega) fun o ho hol=>?_
  refine q59 (q6h ho (Cls.self _ _)) ?_
  have kl:Hid (q5u o=l.take l.length):=⟨hol⟩
  have kll:Hid ((q5u o).length=l.length):=⟨by rw [hol]; exact lt⟩
  clear hol
  repeat' (simp -dsimp -implicitDefEqProofs [-q5d, *])
  refine q51 (bytes:=112) Decision.row_len Decision.row_append o ho [x] (by simp) rfl (by rw [kll.out]; omega) fun o2 ho2 hl2=>?_
  refine q59 (q6h ho2 (Cls.self _ _)) ?_
  have kl2:Hid (q5u o2=l.take l.length++[x]):=⟨by rw [hl2,kl.out]⟩
  have kll2:Hid ((q5u o2).length=l.length+1):=⟨by rw [hl2,List.length_append,kll.out]; rfl⟩
  clear hl2
  repeat' (simp -dsimp -implicitDefEqProofs [-q5d, *])
  refine q51 (bytes:=112) Decision.row_len Decision.row_append o2 ho2 (l.drop l.length) rt.2 (by rw [ld]; omega) (by rw [kll2.out]; omega) fun o3 ho3 hl3=>?_
  refine q59 (q6h ho3 (Cls.self _ _)) ?_
  have kl3:Hid (q5u o3=l.take l.length++x::l.drop l.length):=⟨by rw [hl3,kl2.out]; simp⟩
  clear hl3
  repeat' (simp -dsimp -implicitDefEqProofs [-q5d, *])
  exact RetView.accQ1 rfl ho3 (.drop q5m ⟨by rw [kl3.out]; simp,rfl⟩)
def q8h:List Decision->PV
 | []=>.nil
 | x::l=>Decision.lst false (x::l)
theorem k39 (l:List Decision):PLe (q8h l) (Decision.lst false l):=by
 cases l with
 | nil=>exact .nil1
 | cons x l=>exact .refl _
theorem k60 (l:List Decision):(q8h l).cells=some [q8h l]:=by cases l <;> rfl
theorem z02 {l:List Decision}(h:l ≠ []):q8h l=Decision.lst false l:=by
 cases l with
 | nil=>exact absurd rfl h
 | cons x l=>rfl
theorem z03 (l:List Decision)(x:Decision):k20 k9z l x ≠ []:=by
 unfold k20
 split
 ·rename_i h
  rintro rfl
  simp at h
 ·simp
theorem k97 (l:List Decision)(hl:l.length<=1000)(x:Decision)(st:q5c):Rets P F.q2r [q8h l,x.pv] st (q8h (k20 k9z l x)):=by
 rw [z02 (z03 l x)]
 exact Rets.args (qs:=[Decision.lst false l,x.pv]) ⟨k39 l,.refl _,trivial⟩ (k7y l hl x st)
end Go.Proofs.YtmlmoaimjifpgaaGreat
