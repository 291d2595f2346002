/- Contests, their cells; what is the same as itself. -/
import Derived.Test.YtmlmoaimjifpgaaGreatK58A
import Derived.Test.YtmlmoaimjifpgaaGreatR58H
import Derived.Test.YtmlmoaimjifpgaaGreatX58B
import Derived.Test.YtmlmoaimjifpgaaGreatG58W
import Derived.Test.YtmlmoaimjifpgaaGreatLRd
namespace Go.Proofs.YtmlmoaimjifpgaaGreat
open Go.Pv
set_option maxRecDepth 100000
set_option maxHeartbeats 4000000
structure Crit where
 name:ByteArray
 low:Int
 high:Int
 step:Int
 how:Int
 trim:Int
 rev:Bool
instance:Inhabited Crit:=⟨⟨⟨#[]⟩,0,0,0,0,0,false⟩⟩
def Crit.enc (x:Crit):List PV:=[.str x.name,.int x.low,.int x.high,.int x.step,.int x.how,.int x.trim,.bool x.rev]
@[simp] theorem Crit.eqSelf (x:Crit):q52 [.str,.int,.int,.int,.int,.int,.bool] x.enc x.enc=some true:=by simp [Crit.enc]
@[simp] theorem Crit.len (x:Crit):x.enc.length=7:=rfl
@[simp] theorem Crit.subAll (x:Crit):sub x.enc 0 7=some x.enc:=rfl
def Crit.row (l:List Crit):List PV:=l.flatMap Crit.enc
abbrev Crit.lst (t:Bool)(l:List Crit):PV:=.list t (Crit.row l) l.length
theorem Crit.row_len (l:List Crit):(Crit.row l).length=l.length*7:=q53 Crit.enc 7 Crit.len l
theorem Crit.row_sub (l:List Crit)(i:Nat)(h:i<l.length):sub (Crit.row l) (i*7) 7=some (l[i]).enc:=q7i Crit.enc 7 Crit.len l i h
structure Item where
 name:ByteArray
 value:Int
 most:Int
instance:Inhabited Item:=⟨⟨⟨#[]⟩,0,0⟩⟩
def Item.enc (x:Item):List PV:=[.str x.name,.int x.value,.int x.most]
@[simp] theorem Item.eqSelf (x:Item):q52 [.str,.int,.int] x.enc x.enc=some true:=by simp [Item.enc]
@[simp] theorem Item.len (x:Item):x.enc.length=3:=rfl
@[simp] theorem Item.subAll (x:Item):sub x.enc 0 3=some x.enc:=rfl
def Item.row (l:List Item):List PV:=l.flatMap Item.enc
abbrev Item.lst (t:Bool)(l:List Item):PV:=.list t (Item.row l) l.length
theorem Item.row_len (l:List Item):(Item.row l).length=l.length*3:=q53 Item.enc 3 Item.len l
theorem Item.row_sub (l:List Item)(i:Nat)(h:i<l.length):sub (Item.row l) (i*3) 3=some (l[i]).enc:=q7i Item.enc 3 Item.len l i h
structure TKey where
 kind:Int
 name:ByteArray
 n:Int
instance:Inhabited TKey:=⟨⟨0,⟨#[]⟩,0⟩⟩
def TKey.enc (x:TKey):List PV:=[.int x.kind,.str x.name,.int x.n]
@[simp] theorem TKey.eqSelf (x:TKey):q52 [.int,.str,.int] x.enc x.enc=some true:=by simp [TKey.enc]
@[simp] theorem TKey.len (x:TKey):x.enc.length=3:=rfl
@[simp] theorem TKey.subAll (x:TKey):sub x.enc 0 3=some x.enc:=rfl
def TKey.row (l:List TKey):List PV:=l.flatMap TKey.enc
abbrev TKey.lst (t:Bool)(l:List TKey):PV:=.list t (TKey.row l) l.length
theorem TKey.row_len (l:List TKey):(TKey.row l).length=l.length*3:=q53 TKey.enc 3 TKey.len l
theorem TKey.row_sub (l:List TKey)(i:Nat)(h:i<l.length):sub (TKey.row l) (i*3) 3=some (l[i]).enc:=q7i TKey.enc 3 TKey.len l i h
structure Tie where
 name:ByteArray
 keys:List TKey
instance:Inhabited Tie:=⟨⟨⟨#[]⟩,[]⟩⟩
def Tie.enc (x:Tie):List PV:=[.str x.name,TKey.lst false x.keys]
@[simp] theorem Tie.len (x:Tie):x.enc.length=2:=rfl
@[simp] theorem Tie.subAll (x:Tie):sub x.enc 0 2=some x.enc:=rfl
def Tie.row (l:List Tie):List PV:=l.flatMap Tie.enc
abbrev Tie.lst (t:Bool)(l:List Tie):PV:=.list t (Tie.row l) l.length
theorem Tie.row_len (l:List Tie):(Tie.row l).length=l.length*2:=q53 Tie.enc 2 Tie.len l
theorem Tie.row_name (l:List Tie)(i:Nat)(h:i<l.length):(Tie.row l)[i*2]?=some (.str l[i].name):=k3h Tie.enc 2 Tie.len l i 0 h (by omega)
theorem Tie.row_keys (l:List Tie)(i:Nat)(h:i<l.length):(Tie.row l)[i*2+1]?=some (TKey.lst false l[i].keys):=k3h Tie.enc 2 Tie.len l i 1 h (by omega)
structure Rnd where
 name:ByteArray
 panel:Int
 quota:Int
 cut:Int
 places:Bool
 free:Bool
 score:Xp
 tie:ByteArray
 tieNo:Int
instance:Inhabited Rnd:=⟨⟨⟨#[]⟩,0,0,0,false,false,default,⟨#[]⟩,0⟩⟩
def Rnd.enc (x:Rnd):List PV:=.str x.name::.int x.panel::.int x.quota::.int x.cut::.bool x.places::.bool x.free::(x.score.enc++[.str x.tie,.int x.tieNo])
theorem Rnd.enc_eq (x:Rnd):∃ a b c d e,x.score.enc=[a,b,c,d,e]/\x.enc=[.str x.name,.int x.panel,.int x.quota,.int x.cut,.bool x.places,.bool x.free,a,b,c,d,e,.str x.tie,.int x.tieNo]:=by
 obtain⟨n,p,q,u,pl,fr,⟨k,s,m,d,l⟩,t,tn⟩:=x
 exact⟨_,_,_,_,_,rfl,rfl⟩
@[simp] theorem Rnd.len (x:Rnd):x.enc.length=13:=by obtain⟨_,_,_,_,_, -,e⟩:=x.enc_eq; rw [e]; rfl
def Rnd.row (l:List Rnd):List PV:=l.flatMap Rnd.enc
abbrev Rnd.lst (t:Bool)(l:List Rnd):PV:=.list t (Rnd.row l) l.length
theorem Rnd.row_len (l:List Rnd):(Rnd.row l).length=l.length*13:=q53 Rnd.enc 13 Rnd.len l
theorem Rnd.row_sub (l:List Rnd)(i:Nat)(h:i<l.length):sub (Rnd.row l) (i*13) 13=some (l[i]).enc:=q7i Rnd.enc 13 Rnd.len l i h
theorem Rnd.score_sub (l:List Rnd)(i:Nat)(h:i<l.length):sub (Rnd.row l) (i*13+6) 5=some (l[i]).score.enc:=by
 have h1:=Rnd.row_sub l i h
 have hl:=Rnd.row_len l
 obtain⟨a,b,c,d,e,h2,h3⟩:=l[i].enc_eq
 have h4:((Rnd.row l).drop (i*13)).take 13=l[i].enc:=by
  unfold sub at h1
  split at h1
  ·exact Option.some.inj h1
  ·cases h1
 have h5:((Rnd.row l).drop (i*13+6)).take 5=l[i].score.enc:=by
  have:((((Rnd.row l).drop (i*13)).take 13).drop 6).take 5=((Rnd.row l).drop (i*13+6)).take 5:=by
   rw [List.drop_take,List.drop_drop,List.take_take]
   rfl
  rw [<-this,h4,h3,h2]
  rfl
 unfold sub
 rw [if_pos (by omega),h5]
structure Rul where
 name:ByteArray
 crits:List Crit
 bonus:List Item
 malus:List Item
 ties:List Tie
 rounds:List Rnd
 prizes:List Int
 points:List Int
 best:Int
def Rul.enc (x:Rul):List PV:=[.str x.name,Crit.lst false x.crits,Item.lst false x.bonus,Item.lst false x.malus,Tie.lst false x.ties,Rnd.lst false x.rounds,q6l false x.prizes,q6l false x.points,.int x.best]
theorem k3u (l:List Int)(hl:l.length<=100000)(st:q5c):Rets P F.q1a [q6l false l,q6l false l] st (.bool true):=by
 have hrl:=k5l l
 refine H.q1a.view q5l rfl rfl ?_
 repeat' (simp -dsimp -implicitDefEqProofs [*])
 refine q5e (fun i:Nat=>[(0,q6l false l),(1,q6l false l),(5,.int i)]) (fun _=>st) (fun i=>i<=l.length) (fun i=>l.length-i) 0 (Nat.zero_le _) (by simp) (.refl _) ?_
 intro i hi
 by_cases hil:i<l.length
 case neg=>
  obtain rfl:i=l.length:=by omega
  repeat' (simp -dsimp -implicitDefEqProofs [*])
  exact .same ⟨rfl,rfl⟩
 have hwi:=q5f (n:=i) (by omega)
 have g:=k6n l i hil
 have G:=q6b g
 generalize l[i]=x at *
 repeat' (simp -dsimp -implicitDefEqProofs [*])
 exact Next.intro (i+1) (by omega) (by omega) (by simp) q5m
theorem j3e (l:List Int)(hl:l.length<=100000)(st:q5c):Rets P F.q2w [q6l false l,q6l false l] st (.bool true):=by
 have hrl:=k5l l
 refine H.q2w.view q5l rfl rfl ?_
 repeat' (simp -dsimp -implicitDefEqProofs [*])
 refine q5e (fun i:Nat=>[(0,q6l false l),(1,q6l false l),(5,.int i)]) (fun _=>st) (fun i=>i<=l.length) (fun i=>l.length-i) 0 (Nat.zero_le _) (by simp) (.refl _) ?_
 intro i hi
 by_cases hil:i<l.length
 case neg=>
  obtain rfl:i=l.length:=by omega
  repeat' (simp -dsimp -implicitDefEqProofs [*])
  exact .same ⟨rfl,rfl⟩
 have hwi:=q5f (n:=i) (by omega)
 have g:=k6n l i hil
 have G:=q6b g
 generalize l[i]=x at *
 repeat' (simp -dsimp -implicitDefEqProofs [*])
 exact Next.intro (i+1) (by omega) (by omega) (by simp) q5m
theorem k38 (l:List Item)(hl:l.length<=100000)(st:q5c):Rets P F.q1o [Item.lst false l,Item.lst false l] st (.bool true):=by
 have hrl:=Item.row_len l
 refine H.q1o.view q5l rfl rfl ?_
 repeat' (simp -dsimp -implicitDefEqProofs [*])
 refine q5e (fun i:Nat=>[(0,Item.lst false l),(1,Item.lst false l),(5,.int i)]) (fun _=>st) (fun i=>i<=l.length) (fun i=>l.length-i) 0 (Nat.zero_le _) (by simp) (.refl _) ?_
 intro i hi
 by_cases hil:i<l.length
 case neg=>
  obtain rfl:i=l.length:=by omega
  repeat' (simp -dsimp -implicitDefEqProofs [*])
  exact .same ⟨rfl,rfl⟩
 have hwi:=q5f (n:=i) (by omega)
 have g:=Item.row_sub l i hil
 generalize l[i]=x at *
 repeat' (simp -dsimp -implicitDefEqProofs [*])
 exact Next.intro (i+1) (by omega) (by omega) (by simp) q5m
open Go.Pv
set_option maxRecDepth 100000
set_option maxHeartbeats 4000000
theorem z4h (l:List Tie)(hl:l.length<=100000)(hk:∀ t ∈ l,t.keys.length<=100000)(st:q5c):Rets P F.q1y [Tie.lst false l,Tie.lst false l] st (.bool true):=by
 have hrl:=Tie.row_len l
 replace hk:=Hid.mk hk
 refine H.q1y.view q5l rfl rfl ?_
 repeat' (simp -dsimp -implicitDefEqProofs [*])
 refine q5e (fun i:Nat=>[(0,Tie.lst false l),(1,Tie.lst false l),(5,.int i)]) (fun _=>st) (fun i=>i<=l.length) (fun i=>l.length-i) 0 (Nat.zero_le _) (by simp) (.refl _) ?_
 intro i hi
 by_cases hil:i<l.length
 case neg=>
  obtain rfl:i=l.length:=by omega
  repeat' (simp -dsimp -implicitDefEqProofs [*])
  exact .same ⟨rfl,rfl⟩
 have hwi:=q5f (n:=i) (by omega)
 have g1:=Tie.row_name l i hil
 have G1:=q6b g1
 have g2:=Tie.row_keys l i hil
 have G2:=q6b g2
 have hkl:=hk.out l[i] (List.getElem_mem hil)
 obtain⟨x,hx⟩:∃ x,x=l[i]:=⟨_,rfl⟩
 rw [<-hx] at g1 g2 hkl
 simp only [<-hx] at G1 G2
 clear hx hk
 obtain⟨s,ks⟩:=x
 simp only at g1 g2 G1 G2 hkl
 have hkr:=TKey.row_len ks
 repeat' (simp -dsimp -implicitDefEqProofs [*])
 refine q5e (fun k:Nat=>[(0,Tie.lst false l),(1,Tie.lst false l),(5,.int i),(6,.int k)]) (fun _=>st) (fun k=>k<=ks.length) (fun k=>ks.length-k) 0 (Nat.zero_le _) (by simp) (.refl _) ?_
 intro k hk
 by_cases hkl2:k<ks.length
 case neg=>
  obtain rfl:k=ks.length:=by omega
  repeat' (simp -dsimp -implicitDefEqProofs [*])
  exact Next.intro (i+1) (by omega) (by omega) (by simp) q5m
 have hwk:=q5f (n:=k) (by omega)
 have hs:=TKey.row_sub ks k hkl2
 generalize ks[k]=y at *
 repeat' (simp -dsimp -implicitDefEqProofs [*])
 exact Next.intro (k+1) (by omega) (by omega) (by simp) q5m
theorem z00 (x:Rnd)(hx:x.score.size<=100000)(st:q5c):Rets P F.q2p [.agg x.enc,.agg x.enc] st (.bool true):=by
 have se:=fun st=>z4d 100000 x.score hx (by omega) st
 obtain⟨a,b,c,d,e,h1,h2⟩:=x.enc_eq
 rw [h1] at se
 rw [h2]
 clear h1 h2 hx
 refine H.q2p.view q5l rfl rfl ?_
 repeat' (first 
  | (with_reducible refine Fresh.intro fun b hb=>?_) <;> (try simp -dsimp -implicitDefEqProofs [*] at hb)
  | (with_reducible refine Rets.xcall (se _) ?_)
  | (simp -dsimp -implicitDefEqProofs [*]))
 exact .drop (st':=st) q5m ⟨rfl,rfl⟩
structure Rul.Fit (x:Rul):Prop where
 crits:x.crits.length<=100000
 bonus:x.bonus.length<=100000
 malus:x.malus.length<=100000
 ties:x.ties.length<=100000
 rounds:x.rounds.length<=100000
 prizes:x.prizes.length<=100000
 points:x.points.length<=100000
 keys:∀ t ∈ x.ties,t.keys.length<=100000
 score:∀ r ∈ x.rounds,r.score.size<=100000
theorem z97 (x:Rul)(h:x.Fit)(st:q5c):Rets P F.q2u [.agg x.enc,.agg x.enc] st (.bool true):=by
 obtain⟨h1,h2,h3,h4,h5,h6,h7,h8,h9⟩:=h
 have s1:=fun st=>k38 x.bonus h2 st
 have s2:=fun st=>k38 x.malus h3 st
 have s3:=fun st=>z4h x.ties h4 h8 st
 have s4:=fun st=>k3u x.prizes h6 st
 have s5:=fun st=>k3u x.points h7 st
 have sr:=Hid.mk fun r hr st=>z00 r (h9 r hr) st
 have r1:=Crit.row_len x.crits
 have r2:=Rnd.row_len x.rounds
 obtain⟨nm,cr,bo,ma,ti,ro,pr,po,be⟩:=x
 simp only [Rul.enc] at *
 clear h2 h3 h4 h6 h7 h8 h9
 refine H.q2u.view q5l rfl rfl ?_
 repeat' (first 
  | (with_reducible refine Fresh.intro fun b hb=>?_) <;> (try simp -dsimp -implicitDefEqProofs [*] at hb)
  | (with_reducible refine Rets.xcall (s1 _) ?_)
  | (with_reducible refine Rets.xcall (s2 _) ?_)
  | (with_reducible refine Rets.xcall (s3 _) ?_)
  | (simp -dsimp -implicitDefEqProofs [*]))
 rename_i b1 hb1
 revert b; intro b2 hb2
 clear s1 s2 s3
 refine q5e (fun i:Nat=>[(2,.ptr b1 0),(3,.ptr b2 0),(5,.int i)]) (fun _=>(b2,.arr T.apiRules [.str nm,Crit.lst false cr,Item.lst false bo,Item.lst false ma,Tie.lst false ti,Rnd.lst false ro,q6l false pr,q6l false po,.int be])::(b1,.arr T.apiRules [.str nm,Crit.lst false cr,Item.lst false bo,Item.lst false ma,Tie.lst false ti,Rnd.lst false ro,q6l false pr,q6l false po,.int be])::st) (fun i=>i<=cr.length) (fun i=>cr.length-i) 0 (Nat.zero_le _) (by simp) (.refl _) ?_
 intro i hi
 by_cases hil:i<cr.length
 ·have hwi:=q5f (n:=i) (by omega)
  have g:=Crit.row_sub cr i hil
  generalize cr[i]=x at *
  repeat' (simp -dsimp -implicitDefEqProofs [*])
  exact Next.intro (i+1) (by omega) (by omega) (by simp) q5m
 obtain rfl:i=cr.length:=by omega
 repeat' (simp -dsimp -implicitDefEqProofs [*])
 refine q5e (fun i:Nat=>[(2,.ptr b1 0),(3,.ptr b2 0),(6,.int i)]) (fun _=>(b2,.arr T.apiRules [.str nm,Crit.lst false cr,Item.lst false bo,Item.lst false ma,Tie.lst false ti,Rnd.lst false ro,q6l false pr,q6l false po,.int be])::(b1,.arr T.apiRules [.str nm,Crit.lst false cr,Item.lst false bo,Item.lst false ma,Tie.lst false ti,Rnd.lst false ro,q6l false pr,q6l false po,.int be])::st) (fun i=>i<=ro.length) (fun i=>ro.length-i) 0 (Nat.zero_le _) (by simp) (.refl _) ?_
 intro k hk
 by_cases hkl:k<ro.length
 ·have hwi:=q5f (n:=k) (by omega)
  have g:=Rnd.row_sub ro k hkl
  have s6:=fun st=>sr.out ro[k] (List.getElem_mem hkl) st
  generalize ro[k]=x at *
  repeat' (first 
   | (with_reducible refine Rets.xcall (s6 _) ?_)
   | (with_reducible refine DrawLate.intro [] ?_)
   | (simp -dsimp -implicitDefEqProofs [*]))
  exact Next.intro (k+1) (by omega) (by omega) (by simp) q5m
 obtain rfl:k=ro.length:=by omega
 repeat' (first 
  | (with_reducible refine Rets.xcall (s4 _) ?_)
  | (with_reducible refine Rets.xcall (s5 _) ?_)
  | (simp -dsimp -implicitDefEqProofs [*]))
 exact .drop (st':=st) q5m ⟨rfl,rfl⟩
abbrev j3f (l:List (List Int)):List PV:=l.map (q6l false)
abbrev z98 (l:List (List Int)):PV:=.list false (j3f l) l.length
theorem z69 (l:List (List Int))(i:Nat)(h:i<l.length):(j3f l)[i]?=some (q6l false l[i]):=by simp [h]
abbrev z2j (l:List (List (List Int))):List PV:=l.map z98
abbrev z7a (l:List (List (List Int))):PV:=.list false (z2j l) l.length
theorem z2k (l:List (List (List Int)))(i:Nat)(h:i<l.length):(z2j l)[i]?=some (z98 l[i]):=by simp [h]
theorem z99 (l:List (List Int))(hl:l.length<=100000)(hx:∀ x ∈ l,x.length<=100000)(st:q5c):Rets P F.q3u [z98 l,z98 l] st (.bool true):=by
 have hrl:(j3f l).length=l.length:=List.length_map ..
 have sx:=Hid.mk fun x hm st=>j3e x (hx x hm) st
 have hg:=z69 l
 unfold z98
 generalize j3f l=R at *
 clear hx
 refine H.q3u.view q5l rfl rfl ?_
 repeat' (simp -dsimp -implicitDefEqProofs [*])
 refine q5e (fun i:Nat=>[(0,.list false R l.length),(1,.list false R l.length),(5,.int i)]) (fun _=>st) (fun i=>i<=l.length) (fun i=>l.length-i) 0 (Nat.zero_le _) (by simp) (.refl _) ?_
 intro i hi
 by_cases hil:i<l.length
 case neg=>
  obtain rfl:i=l.length:=by omega
  repeat' (simp -dsimp -implicitDefEqProofs [*])
  exact .same ⟨rfl,rfl⟩
 have hwi:=q5f (n:=i) (by omega)
 have g:=hg i hil
 have G:=q6b g
 have s1:=fun st=>sx.out l[i] (List.getElem_mem hil) st
 clear hg
 generalize l[i]=x at *
 repeat' (first 
  | (with_reducible refine Rets.xcall (s1 _) ?_)
  | (with_reducible refine DrawLate.intro [] ?_)
  | (simp -dsimp -implicitDefEqProofs [*]))
 exact Next.intro (i+1) (by omega) (by omega) (by simp) q5m
structure Con where
 rules:Rul
 entrants:List Int
 judges:List Int
 panels:List (List (List Int))
 seed:{s:List (BitVec 8) // s.length=32}
def Con.enc (c:Con):List PV:=c.rules.enc++(q6l false c.entrants::q6l false c.judges::z7a c.panels::q5k c.seed.1)
theorem Con.len (c:Con):c.enc.length=44:=by
 unfold Con.enc
 rw [List.length_append,List.length_cons,List.length_cons,List.length_cons,q6e,c.seed.2]
 rfl
def Con.c44 (c:Con):C44:=⟨c.enc,c.len⟩
structure Con.Fit (c:Con):Prop where
 rules:c.rules.Fit
 entrants:c.entrants.length<=100000
 judges:c.judges.length<=100000
 panels:c.panels.length<=100000
 panel:∀ x ∈ c.panels,x.length<=100000/\∀ y ∈ x,y.length<=100000
theorem j1s:∀ (s:List (BitVec 8)),q52 (List.replicate s.length .int) (q5k s) (q5k s)=some true
 | []=>rfl
 | x::s=>by
  show q52 (.int::List.replicate s.length .int) (bv x::q5k s) (bv x::q5k s)=some true
  simp [q52,j1s s,bv]
theorem Con.subRules (c:Con):sub c.enc 0 9=some c.rules.enc:=rfl
theorem Con.get9 (c:Con):c.enc[9]?=some (q6l false c.entrants):=rfl
theorem Con.get10 (c:Con):c.enc[10]?=some (q6l false c.judges):=rfl
theorem Con.get11 (c:Con):c.enc[11]?=some (z7a c.panels):=rfl
theorem Con.subSeed (c:Con):sub c.enc 12 32=some (q5k c.seed.1):=by
 have hl:=c.len
 have hs:(q5k c.seed.1).length=32:=by rw [q6e,c.seed.2]
 unfold sub
 rw [if_pos (by omega)]
 show some ((q5k c.seed.1).take 32)=_
 rw [List.take_of_length_le (by omega)]
theorem k7x (c:Con)(h:c.Fit)(st:q5c):Rets P F.q0r [.agg c.enc,.agg c.enc] st (.bool true):=by
 have s0:=fun st=>z97 c.rules h.rules st
 have s1:=fun st=>k3u c.entrants h.entrants st
 have s2:=fun st=>k3u c.judges h.judges st
 have hpl:=h.panels
 have sp:=Hid.mk fun x hx st=>z99 x (h.panel x hx).1 (h.panel x hx).2 st
 have g0:=c.subRules
 have g1:=c.get9
 have G1:=q6b g1
 have g2:=c.get10
 have G2:=q6b g2
 have g3:=c.get11
 have G3:=q6b g3
 have g4:=c.subSeed
 have hl:=c.len
 have he:=j1s c.seed.1
 rw [c.seed.2] at he
 simp only [List.replicate] at he
 have hpr:=z2k c.panels
 have hprl:(z2j c.panels).length=c.panels.length:=List.length_map ..
 unfold z7a at g3 G3
 generalize c.enc=C at *
 generalize z2j c.panels=R at *
 generalize q5k c.seed.1=B at *
 obtain⟨ru,en,ju,pa,se⟩:=c
 simp only at *
 clear h
 refine H.q0r.view q5l rfl rfl ?_
 repeat' (first 
  | (with_reducible refine Fresh.intro fun b hb=>?_) <;> (try simp -dsimp -implicitDefEqProofs [*] at hb)
  | (with_reducible refine Rets.xcall (s0 _) ?_)
  | (with_reducible refine Rets.xcall (s1 _) ?_)
  | (with_reducible refine Rets.xcall (s2 _) ?_)
  | (simp -dsimp -implicitDefEqProofs [*]))
 rename_i b1 hb1
 revert b; intro b2 hb2
 clear s0 s1 s2 g0 g1 G1 g2 G2 g4 he
 refine q5e (fun i:Nat=>[(2,.ptr b1 0),(3,.ptr b2 0),(5,.int i)]) (fun _=>(b2,.arr T.apiContest C)::(b1,.arr T.apiContest C)::st) (fun i=>i<=pa.length) (fun i=>pa.length-i) 0 (Nat.zero_le _) (by simp) (.refl _) ?_
 intro i hi
 by_cases hil:i<pa.length
 case neg=>
  obtain rfl:i=pa.length:=by omega
  repeat' (simp -dsimp -implicitDefEqProofs [*])
  exact .drop (st':=st) q5m ⟨rfl,rfl⟩
 have hwi:=q5f (n:=i) (by omega)
 have g:=hpr i hil
 have G:=q6b g
 have s3:=fun st=>sp.out pa[i] (List.getElem_mem hil) st
 clear hpr
 generalize pa[i]=x at *
 repeat' (first 
  | (with_reducible refine Rets.xcall (s3 _) ?_)
  | (with_reducible refine DrawLate.intro [] ?_)
  | (simp -dsimp -implicitDefEqProofs [*]))
 exact Next.intro (i+1) (by omega) (by omega) (by simp) q5m
set_option maxRecDepth 100000
set_option maxHeartbeats 4000000
open Go.ChangeShapes Go.WideShapes Go.ChangeAt Go.RowKit Go.Pv
section
variable {H:Type} {enc:TypeId × Value->H} {W:World} {base:Nat} {spare:Nat->Bool} {held:Bool}
theorem op_i:Opens enc Tryz.prog W base spare held [] 3 1 (fun n:Int=>[.int n]) I64:=Opens.i64 Tryz.underlying3 (by kernel_rfl)
theorem op_s:Opens enc Tryz.prog W base spare held [] 9 1 (fun s:ByteArray=>[.str s]) (fun _=>True):=Opens.str Tryz.underlying9 (by kernel_rfl)
theorem v2e:Opens enc Tryz.prog W base spare held [] 4 1 (fun b:Bool=>[.bool b]) (fun _=>True):=Opens.bool Tryz.underlying4 (by kernel_rfl)
theorem k95:Opens enc Tryz.prog W base spare held [] 50 1 (fun l:List Int=>[q6l false l]) (fun _=>True):=
 (Opens.slice OffE.nil Tryz.underlying50 (by kernel_rfl) (by decide) op_i).conv id (fun l=>by rw [k3s]; rfl) (fun _ _=>trivial)
theorem y8g:Opens enc Tryz.prog W base spare held [] 117 1 (fun l:List (List Int)=>[z98 l]) (fun _=>True):=
 (Opens.slice OffE.nil Tryz.underlying117 (by kernel_rfl) (by decide) k95).conv id (fun l=>by rw [k3s]; rfl) (fun _ _=>trivial)
theorem y29:Opens enc Tryz.prog W base spare held [] 53 1 (fun l:List (List (List Int))=>[z7a l]) (fun _=>True):=
 (Opens.slice OffE.nil Tryz.underlying53 (by kernel_rfl) (by decide) y8g).conv id (fun l=>by rw [k3s]; rfl) (fun _ _=>trivial)
theorem y8h:Opens enc Tryz.prog W base spare held [] 55 32 (fun d:{s:List (BitVec 8) // s.length=32}=>q5k d.1) (fun _=>True):=
 ⟨by kernel_rfl,fun {fuel cs y} h=>by
  obtain⟨l,hl,hc⟩:=z8p Tryz.underlying55 Tryz.underlying5 (by kernel_rfl) (by kernel_rfl) h
  refine⟨⟨l,hl⟩,trivial, ?_,by rw [hc,List.length_map,hl]⟩
  rw [hc]
  have:=q7w (z7l W []) (l.map fun b=>Value.int .u8 b.toNat) (fun v hv=>by obtain⟨n, -,rfl⟩:=List.mem_map.1 hv; rfl)
  rwa [List.map_map] at this⟩
theorem y3a:Opens enc Tryz.prog W base spare held [] 255 7 (fun x:Crit=>x.enc) (fun _=>True):=
 (Opens.struct Tryz.underlying255 (by kernel_rfl) (.cons rfl op_s (.cons rfl op_i (.cons rfl op_i (.cons rfl op_i (.cons rfl op_i (.cons rfl op_i (.cons rfl v2e .nil)))))))).conv (fun x=>⟨x.1,x.2.1,x.2.2.1,x.2.2.2.1,x.2.2.2.2.1,x.2.2.2.2.2.1,x.2.2.2.2.2.2.1⟩) (fun _=>rfl) (fun _ _=>trivial)
theorem y3b:Opens enc Tryz.prog W base spare held [] 278 3 (fun x:Item=>x.enc) (fun _=>True):=
 (Opens.struct Tryz.underlying278 (by kernel_rfl) (.cons rfl op_s (.cons rfl op_i (.cons rfl op_i .nil)))).conv (fun x=>⟨x.1,x.2.1,x.2.2.1⟩) (fun _=>rfl) (fun _ _=>trivial)
theorem y8i:Opens enc Tryz.prog W base spare held [] 280 3 (fun x:TKey=>x.enc) (fun _=>True):=
 (Opens.struct Tryz.underlying280 (by kernel_rfl) (.cons rfl op_i (.cons rfl op_s (.cons rfl op_i .nil)))).conv (fun x=>⟨x.1,x.2.1,x.2.2.1⟩) (fun _=>rfl) (fun _ _=>trivial)
theorem y3c:Opens enc Tryz.prog W base spare held [] 181 1 (fun l:List TKey=>[TKey.lst false l]) (fun _=>True):=
 (Opens.slice OffE.nil Tryz.underlying181 (by kernel_rfl) (by decide) y8i).conv id (fun _=>rfl) (fun _ _=>trivial)
theorem y8j:Opens enc Tryz.prog W base spare held [] 183 2 (fun x:Tie=>x.enc) (fun _=>True):=
 (Opens.struct Tryz.underlying183 (by kernel_rfl) (.cons rfl op_s (.cons rfl y3c .nil))).conv (fun x=>⟨x.1,x.2.1⟩) (fun _=>rfl) (fun _ _=>trivial)
theorem j9e:Opens enc Tryz.prog W base spare held [] 46 1 (fun l:List Crit=>[Crit.lst false l]) (fun _=>True):=
 (Opens.slice OffE.nil Tryz.underlying46 (by kernel_rfl) (by decide) y3a).conv id (fun _=>rfl) (fun _ _=>trivial)
theorem j1t:Opens enc Tryz.prog W base spare held [] 47 1 (fun l:List Item=>[Item.lst false l]) (fun _=>True):=
 (Opens.slice OffE.nil Tryz.underlying47 (by kernel_rfl) (by decide) y3b).conv id (fun _=>rfl) (fun _ _=>trivial)
theorem y3d:Opens enc Tryz.prog W base spare held [] 48 1 (fun l:List Tie=>[Tie.lst false l]) (fun _=>True):=
 (Opens.slice OffE.nil Tryz.underlying48 (by kernel_rfl) (by decide) y8j).conv id (fun _=>rfl) (fun _ _=>trivial)
theorem j1u:∀ N:Nat,OpensB enc Tryz.prog W base spare held [] N 229 5 (fun x:Xp=>x.enc) (fun _=>True)/\OpensB enc Tryz.prog W base spare held [] N 227 1 (fun l:List Xp=>[.list false (Xp.rows l) l.length]) (fun _=>True)
 | 0=>⟨OpensB.struct0 Tryz.underlying229 (by kernel_rfl),OpensB.slice0 Tryz.underlying227 (by kernel_rfl) [] trivial rfl⟩
 | N+1=>by
  obtain⟨h1,h2⟩:=j1u N
  refine⟨?_, ?_⟩
  ·exact (OpensB.struct Tryz.underlying229 (by kernel_rfl) (.cons rfl op_i.b (.cons rfl op_s.b (.cons rfl op_i.b (.cons rfl op_i.b (.cons rfl h2 .nil)))))).conv (fun x=>.mk x.1 x.2.1 x.2.2.1 x.2.2.2.1 x.2.2.2.2.1) (fun _=>rfl) (fun _ _=>trivial)
  ·exact (OpensB.slice OffE.nil Tryz.underlying227 (by kernel_rfl) (by decide) h1).conv id (fun l=>by rw [Xp.rows_flat]; rfl) (fun _ _=>trivial)
theorem y3e:Opens enc Tryz.prog W base spare held [] 229 5 (fun x:Xp=>x.enc) (fun _=>True):=Opens.ofB fun N=>(j1u N).1
theorem j9f:Opens enc Tryz.prog W base spare held [] 231 13 (fun x:Rnd=>x.enc) (fun _=>True):=
 (Opens.struct Tryz.underlying231 (by kernel_rfl) (.cons rfl op_s (.cons rfl op_i (.cons rfl op_i (.cons rfl op_i (.cons rfl v2e (.cons rfl v2e (.cons rfl y3e (.cons rfl op_s (.cons rfl op_i .nil)))))))))).conv (fun x=>⟨x.1,x.2.1,x.2.2.1,x.2.2.2.1,x.2.2.2.2.1,x.2.2.2.2.2.1,x.2.2.2.2.2.2.1,x.2.2.2.2.2.2.2.1,x.2.2.2.2.2.2.2.2.1⟩) (fun _=>rfl) (fun _ _=>trivial)
theorem j6v:Opens enc Tryz.prog W base spare held [] 49 1 (fun l:List Rnd=>[Rnd.lst false l]) (fun _=>True):=
 (Opens.slice OffE.nil Tryz.underlying49 (by kernel_rfl) (by decide) j9f).conv id (fun _=>rfl) (fun _ _=>trivial)
theorem j9g:Opens enc Tryz.prog W base spare held [] 52 9 (fun x:Rul=>x.enc) (fun _=>True):=
 (Opens.struct Tryz.underlying52 (by kernel_rfl) (.cons rfl op_s (.cons rfl j9e (.cons rfl j1t (.cons rfl j1t (.cons rfl y3d (.cons rfl j6v (.cons rfl k95 (.cons rfl k95 (.cons rfl op_i .nil)))))))))).conv (fun x=>⟨x.1,x.2.1,x.2.2.1,x.2.2.2.1,x.2.2.2.2.1,x.2.2.2.2.2.1,x.2.2.2.2.2.2.1,x.2.2.2.2.2.2.2.1,x.2.2.2.2.2.2.2.2.1⟩) (fun _=>rfl) (fun _ _=>trivial)
theorem j3g:Opens enc Tryz.prog W base spare held [] 57 44 (fun x:Con=>x.enc) (fun _=>True):=
 (Opens.struct Tryz.underlying57 (by kernel_rfl) (.cons rfl j9g (.cons rfl k95 (.cons rfl k95 (.cons rfl y29 (.cons rfl y8h .nil)))))).conv (fun x=>⟨x.1,x.2.1,x.2.2.1,x.2.2.2.1,x.2.2.2.2.1⟩) (fun x=>by simp [Con.enc]) (fun _ _=>trivial)
end
theorem j9h {I:Imm}{c:Con}{v:Value}(h:vrep I (.agg c.enc) v):c.rules.ties.length<=9223372036854775807:=by
 have h1:=z5v _ _ h
 simp only [PV.wide] at h1
 have h2:=z5w h1 (Tie.lst false c.rules.ties) (by simp [Con.enc,Rul.enc])
 simp only [PV.wide] at h2
 exact h2.1
end Go.Proofs.YtmlmoaimjifpgaaGreat
