/- Parties: what sends, tells, syncs. -/
import Derived.Test.YtmlmoaimjifpgaaGreatV58B
namespace Go.Proofs.YtmlmoaimjifpgaaGreat
open Go.Pv Go.Pv.Cd
set_option maxRecDepth 100000
set_option maxHeartbeats 4000000
set_option linter.unusedVariables false
theorem k5z (pb m cap:Nat)(q:List Pk)(k:Int)(hk:0<=k/\k<m)(cb:Nat)(st:q5c)(hcb:q55 st cb=some (z0d pb m cap q)):Rets P F.q1f [.ptr cb 0,.int k] st (.tuple []):=by
 have h1:=hk.1
 have h2:=hk.2
 refine H.q1f.pure q5l rfl rfl ?_
 repeat' (first 
  | (with_reducible refine Rets.xcall (q9v _ _) ?_)
  | (simp -dsimp -implicitDefEqProofs [*]))
theorem z38 (pb m cap:Nat)(q:List Pk)(k:Int)(hk:¬ (0<=k/\k<m))(cb:Nat)(st:q5c)(hcb:q55 st cb=some (z0d pb m cap q)):Panics P F.q1f [.ptr cb 0,.int k] st (.iface T.apiErrno (.int 1)):=by
 refine H.q1f.panics q5l rfl rfl ?_
 by_cases h1:0<=k
 ·have h2:¬ k<m:=by omega
  clear hk
  repeat' (first 
   | (with_reducible refine Panics.xcall (k0n _ _) ?_)
   | (simp -dsimp -implicitDefEqProofs [*]))
 ·clear hk
  repeat' (first 
   | (with_reducible refine Panics.xcall (k0n _ _) ?_)
   | (simp -dsimp -implicitDefEqProofs [*]))
@[simp] theorem v14 {b:Nat}{o:PObj}{st:q5c}:Cls [(b,o)] [] st=(q55 st b=some o):=by
 apply propext
 constructor
 ·intro h
  exact h b List.not_mem_nil o (by simp [q55])
 ·intro h c _ x hx
  simp only [q55] at hx
  split at hx
  ·rename_i e
   subst e
   rw [h,Option.some.inj hx]
  ·cases hx
def j57 (P:Program)(g:FuncId)(fs cs:List PV)(xs:List PV)(ok:q5c->Prop):Prop:=
 ∀ (σ:Type) (S:σ->q5c) (inv:List PV->σ->Prop) (l:Nat),(∀ pre s,inv pre s->ok (S s)) ->
  (∀ pre x s,inv pre s->pre++[x] <+: xs->PRound P l [x] (S s) fun e st'=>e=.ret (.bool true)/\∃ s',inv (pre++[x]) s'/\st'=S s') ->
  ∀ s,inv [] s->PCalls P g (fs++[.func (.yield l) [] []]++cs) (S s) fun e st'=>e=.ret (.tuple [])/\∃ s',inv xs s'/\st'=S s'
def y7z (q xs:List Pk)(pre:List PV)(q1:List Pk):Prop:=∃ k,k<=xs.length/\pre=(xs.take k).map Pk.pv/\q1=q++xs.take k
theorem z2e {g:FuncId}{cs:List PV}{xs:List Pk}{ok:q5c->Prop}(hent:q93 P g)(q:List Pk)(pb m cap cb:Nat)(st:q5c)(hy:j57 P g [] cs (xs.map Pk.pv) ok)(hok:∀ q' s,StLe ((cb,z0d pb m cap q')::st) s->ok s)
  (hq:∀ p ∈ q++xs,pkB p=true) (hl:q.length+xs.length<=4096) (hcb:q50 st cb) :
  Does P F.q2d [.ptr cb 0,.func (.func g) [] cs] ((cb,z0d pb m cap q)::st) (.tuple []) ((cb,z0d pb m cap (q++xs))::st):=by
 refine H.q2d.view q5l rfl rfl ?_
 repeat' (first 
  | (with_reducible refine Fresh.intro fun b hb=>?_) <;> (try simp -dsimp -implicitDefEqProofs [*] at hb)
  | (simp -dsimp -implicitDefEqProofs [*]))
 revert b; intro bb hbb
 refine z8f hent fun key hkey lp hlp=>?_
 simp -dsimp -implicitDefEqProofs [*] at hlp
 have hs0:∀ k,∀ p ∈ q++xs.take k,pkB p=true:=fun k p hp=>hq p ((List.mem_append.1 hp).elim (fun h=>List.mem_append_left _ h) fun h=>List.mem_append_right _ (List.mem_of_mem_take h))
 refine q5h (hy (List Pk) (fun q1=>(lp,.loop key [(7,.func (.func g) [] cs),(2,.ptr bb 0),(0,.ptr cb 0),(1,.func (.func g) [] cs)] .ready none)::(bb,.arr T.q46 [.ptr cb 0])::(cb,z0d pb m cap q1)::st)
  (y7z q xs) lp ?_ ?_ q ⟨0,Nat.zero_le _,rfl,by simp⟩) ?_
 ·exact fun _ q1 _=>hok q1 _ q5m
 ·rintro pre x q1 ⟨k,hk,rfl,rfl⟩ hpx
  have hlen:=z8l hpx
  have e1:((xs.take k).map Pk.pv).length=k:=by rw [List.length_map,List.length_take]; omega
  rw [e1,List.length_map] at hlen
  have e2:x=xs[k].pv:=by
   have:=hpx.getElem (i:=k) (by rw [List.length_append,e1]; simp)
   rw [List.getElem_append_right (by rw [e1]; exact Nat.le_refl _),List.getElem_map] at this
   simpa [e1] using this
  subst e2
  have e3:xs.take (k+1)=xs.take k++[xs[k]]:=List.take_succ_eq_append_getElem hlen
  have e4:q++xs.take (k+1)=q++xs.take k++[xs[k]]:=by rw [e3,List.append_assoc]
  have w:=fun st=>z6r (q++xs.take k) (by rw [List.length_append,List.length_take]; omega) (hs0 k) xs[k] (hq _ (List.mem_append_right _ (List.getElem_mem hlen))) st
  rw [<-e4] at w
  have fin:y7z q xs ((xs.take k).map Pk.pv++[xs[k].pv]) (q++xs.take (k+1)):=⟨k+1,hlen,by rw [e3,List.map_append]; rfl,rfl⟩
  clear hpx e1
  generalize (xs.take k).map Pk.pv++[xs[k].pv]=pre2 at *
  generalize q++xs.take (k+1)=q2 at *
  generalize q++xs.take k=q1 at *
  generalize xs[k]=x at *
  refine z5o q5l hkey (by simp [*] <;> rfl) rfl ?_
  clear hkey hy hok e3 e4 hs0 hq hl
  repeat' (first 
   | (with_reducible refine Fresh.intro fun b hb=>?_) <;> (try simp -dsimp -implicitDefEqProofs [*] at hb)
   | (with_reducible refine q6f (fun _=>w _) ?_)
   | (with_reducible refine Rets.xcall (q9v _ _) ?_)
   | (with_reducible refine DrawLate.intro [] ?_)
   | (with_reducible refine q59 ?_ ?_)
   | (with_reducible exact Cls.self _ _)
   | (with_reducible refine q6p ?_ ?_)
   | (simp -dsimp -implicitDefEqProofs [*]))
  exact⟨_,q5m,q2,fin,rfl⟩
 ·rintro e s ⟨rfl,q1,⟨k,hk,e1,rfl⟩,rfl⟩
  have e2:xs.take k=xs:=by
   have:=congrArg List.length e1
   rw [List.length_map,List.length_map,List.length_take] at this
   exact List.take_of_length_le (by omega)
  rw [e2]
  clear hkey hy hok hs0 hq hl e1 e2
  repeat' (simp -dsimp -implicitDefEqProofs [*])
  exact RetView.drop (st':=(cb,z0d pb m cap (q++xs))::st) q5m ⟨rfl,rfl⟩
theorem strL_size (l:List (BitVec 8)):(k6b l).size=l.length:=by
 show (l.map UInt8.ofBitVec).toArray.size=_
 simp
theorem k6w (l:List (BitVec 8)):PV.list false (k1h (k6b l)) (k6b l).size=q54 false l:=by
 rw [k9b,strL_size]
 have:(k6b l).data.toList.map (·.toBitVec)=l:=by
  show ((l.map UInt8.ofBitVec).toArray.toList).map (·.toBitVec)=l
  simp [Function.comp_def]
 rw [this]
def mvE (m:Mv Note):List PV:=.int m.kind::.int m.peer::.int m.to::.int m.at'::m.note.enc
section
variable (x:Mv Note) (b k:Nat) (o:PObj)
@[simp] theorem v15:(mvE x).length=28:=rfl
@[simp] theorem v16:sub (mvE x) 0 28=some (mvE x):=rfl
@[simp] theorem mvE_0:(mvE x)[0]?=some (.int x.kind):=rfl
@[simp] theorem mvE_1:(mvE x)[1]?=some (.int x.peer):=rfl
@[simp] theorem mvE_2:(mvE x)[2]?=some (.int x.to):=rfl
@[simp] theorem mvE_3:(mvE x)[3]?=some (.int x.at'):=rfl
@[simp] theorem v0g:sub (mvE x) 4 24=some x.note.enc:=rfl
end
structure OkT (pb m cap cb bc bm:Nat)(x:Mv Note)(peers:List (List Note))(C:List PV)(st:q5c):Prop where
 bc:q55 st bc=some (.arr T.q46 [.ptr cb 0])
 bm:q55 st bm=some (.arr T.apiMove (mvE x))
 cb:∃ q,q55 st cb=some (z0d pb m cap q)
 pb:q55 st pb=some (k7v peers C)
section
variable (x:Mv Note)
@[simp] theorem mvE_e0 (h:0<(mvE x).length):(mvE x)[0]'h=.int x.kind:=rfl
@[simp] theorem mvE_e1 (h:1<(mvE x).length):(mvE x)[1]'h=.int x.peer:=rfl
@[simp] theorem mvE_e2 (h:2<(mvE x).length):(mvE x)[2]'h=.int x.to:=rfl
@[simp] theorem mvE_e3 (h:3<(mvE x).length):(mvE x)[3]'h=.int x.at':=rfl
end
def k2j (j:Nat)(n:Note)(m:Nat):List Pk:=((List.range m).filter fun i=>decide (i ≠ j)).map fun i=>q7m (j,i,n)
theorem k6x (j:Nat)(n:Note)(i:Nat):k2j j n (i+1)=k2j j n i++if i=j then [] else [q7m (j,i,n)]:=by
 unfold k2j
 rw [List.range_succ,List.filter_append,List.map_append]
 congr 1
 by_cases h:i=j <;> simp [h]
theorem j58 (j:Nat)(n:Note){i m:Nat}(h:i<=m):k2j j n i <+: k2j j n m:=by
 obtain⟨k,rfl⟩:=Nat.exists_eq_add_of_le h
 clear h
 induction k with
 | zero=>exact List.prefix_refl _
 | succ k ih=>
  rw [<-Nat.add_assoc,k6x]
  exact ih.trans (List.prefix_append _ _)
theorem z9s (x:Mv Note)(hn:q5s x.note=true)(j:Nat)(hj:x.peer=j)(pb m cap cb bc bm:Nat)(hm:m<=24)(peers:List (List Note))(C:List PV) :
  j57 P F.q11 [] [.ptr bc 0,.ptr bm 0] ((k2j j x.note m).map Pk.pv) (OkT pb m cap cb bc bm x peers C):=by
 intro σ S inv lp hok hround s hs
 have ms:=fun st=>q9m x.note hn st
 have hmsg:=k6u hn
 have hK:=hok [] s hs
 obtain⟨h1,h2,⟨q,h3⟩, -⟩:=hK
 refine H.q11.view q5l rfl rfl ?_
 repeat' (simp -dsimp -implicitDefEqProofs [*])
 clear h3
 refine q5e (fun y:Nat × σ=>[(0,.func (.yield lp) [] []),(1,.ptr bc 0),(2,.ptr bm 0),(10,.int m),(11,.int y.1)]) (fun y=>S y.2)
  (fun y=>y.1<=m/\inv ((k2j j x.note y.1).map Pk.pv) y.2) (fun y=>m-y.1) (0,s) ⟨Nat.zero_le _,hs⟩ (by simp) (.refl _) ?_
 clear hs h1 h2
 rintro⟨i,s⟩ ⟨hi,hs⟩
 simp only at hi hs
 obtain⟨h1,h2, -, -⟩:=hok _ s hs
 by_cases hin:i<m
 ·have hwi:=q5f (n:=i) (by omega)
  by_cases hij:i=j
  ·subst hij
   have hst:=k6x i x.note i
   rw [if_pos rfl,List.append_nil] at hst
   rw [<-hst] at hs
   clear hst hround hok
   repeat' (simp -dsimp -implicitDefEqProofs [*])
   refine DrawLate.by (Cls [(bm,.arr T.apiMove (mvE x))] []) (by simp [*]) ?_
   repeat' (simp -dsimp -implicitDefEqProofs [*])
   exact Next.intro (i+1,s) ⟨hin,hs⟩ (by simp only; omega) (by simp) (.refl _)
  ·have hst:=k6x j x.note i
   rw [if_neg hij] at hst
   have hpre:=j58 j x.note (i:=i+1) (m:=m) hin
   have hij2:¬ (i:Int)=j:=by omega
   have hsz:(k6b (msg x.note)).size<=140737488355328:=by rw [strL_size]; omega
   have hcl:∀ s,inv ((k2j j x.note (i+1)).map Pk.pv) s->q55 (S s) bm=some (.arr T.apiMove (mvE x)):=fun s h=>(hok _ s h).bm
   have hpv:(k2j j x.note (i+1)).map Pk.pv=(k2j j x.note i).map Pk.pv++[(q7m (j,i,x.note)).pv]:=by rw [hst,List.map_append]; rfl
   have hrd:=hround _ _ s hs (by rw [<-hpv]; exact hpre.map _)
   rw [<-hpv] at hrd
   have hcells:PV.list false (k1h (k6b (msg x.note))) (k6b (msg x.note)).size=q54 false (msg x.note):=k6w _
   clear hround hok hst hpre hpv hs
   repeat' (simp -dsimp -implicitDefEqProofs [*])
   refine DrawLate.by (Cls [(bm,.arr T.apiMove (mvE x))] []) (by simp [*]) ?_
   repeat' (first 
    | (with_reducible refine Rets.xcall (ms _) ?_)
    | (simp -dsimp -implicitDefEqProofs [*]))
   refine k87 hrd fun e st' hq=>?_
   obtain⟨rfl,s2,hs2,rfl⟩:=hq
   have hc2:=hcl s2 hs2
   clear hcl hrd
   repeat' (simp -dsimp -implicitDefEqProofs [*])
   exact Next.intro (i+1,s2) ⟨hin,hs2⟩ (by simp only; omega) (by simp) (.refl _)
 ·obtain rfl:i=m:=by omega
  clear hround hok
  repeat' (simp -dsimp -implicitDefEqProofs [*])
  exact .same ⟨rfl,s,hs,rfl⟩
def k3x (a b:Nat)(l:List Note):List Pk:=l.map fun n=>q7m (a,b,n)
theorem j26 (a b:Nat)(l:List Note)(i:Nat)(h:i<l.length):(k3x a b (l.take (i+1))).map Pk.pv=(k3x a b (l.take i)).map Pk.pv++[(q7m (a,b,l[i])).pv]:=by
 rw [List.take_succ_eq_append_getElem h]
 unfold k3x
 rw [List.map_append,List.map_append]
 rfl
theorem j59 (a b:Nat)(l:List Note)(i:Nat):(k3x a b (l.take i)).map Pk.pv <+: (k3x a b l).map Pk.pv:=((List.take_prefix i l).map _).map _
theorem z9t (x:Mv Note)(j t:Nat)(hj:x.peer=j)(ht:x.to=t)(pb m cap cb bc bm:Nat)(hm:m<=24)(peers:List (List Note))(C:List PV)(hp:peers.length=m)(hjm:j<m)(l:List Note)(hlj:peers[j]?=some l)(hl:l.length<=1000)(hf:∀ n ∈ l,q5s n=true) :
  j57 P F.q12 [] [.ptr bc 0,.ptr bm 0] ((k3x j t l).map Pk.pv) (OkT pb m cap cb bc bm x peers C):=by
 intro σ S inv lp hok hround s hs
 have hK:=hok [] s hs
 obtain⟨h1,h2,⟨q,h3⟩,h4⟩:=hK
 have hpl:=k1y peers
 have hjl:j<peers.length:=by omega
 have elj:peers[j]=l:=(List.getElem?_eq_some_iff.1 hlj).2
 have g1:(prR peers++C)[j]?=some (Note.lst false l):=by rw [List.getElem?_append_left (by rw [hpl]; exact hjl),z9q hjl,elj]
 have G1:=q6b g1
 subst elj
 generalize peers[j]=l at *
 refine H.q12.view q5l rfl rfl ?_
 repeat' (simp -dsimp -implicitDefEqProofs [*])
 clear h1 h2 h3 h4 g1 G1 hlj hpl hjl
 refine q5e (fun y:Nat × σ=>[(0,.func (.yield lp) [] []),(1,.ptr bc 0),(2,.ptr bm 0),(15,Note.lst false l),(16,.int l.length),(17,.int y.1)]) (fun y=>S y.2)
  (fun y=>y.1<=l.length/\inv ((k3x j t (l.take y.1)).map Pk.pv) y.2) (fun y=>l.length-y.1) (0,s) ⟨Nat.zero_le _,hs⟩ (by simp) (.refl _) ?_
 clear hs
 rintro⟨i,s⟩ ⟨hi,hs⟩
 simp only at hi hs
 have h2:=(hok _ s hs).bm
 by_cases hin:i<l.length
 ·have hwi:=q5f (n:=i) (by omega)
  have hsub:=Note.row_sub l i hin
  have hrl:=Note.row_len l
  have hpv:=j26 j t l i hin
  have hpre:=j59 j t l (i+1)
  have hn:q5s l[i]=true:=hf _ (List.getElem_mem hin)
  have hcl:∀ s,inv ((k3x j t (l.take (i+1))).map Pk.pv) s->q55 (S s) bm=some (.arr T.apiMove (mvE x)):=fun s h=>(hok _ s h).bm
  have hrd:=hround _ _ s hs (by rw [<-hpv]; exact hpre)
  rw [<-hpv] at hrd
  have ms:=fun st=>q9m l[i] hn st
  have hmsg:=k6u hn
  have hsz:(k6b (msg l[i])).size<=140737488355328:=by rw [strL_size]; omega
  have hcells:=k6w (msg l[i])
  clear hround hok hpre hpv hs hf hn
  generalize l[i]=n at *
  repeat' (first 
   | (with_reducible refine Fresh.intro fun b hb=>?_) <;> (try simp -dsimp -implicitDefEqProofs [*] at hb)
   | (simp -dsimp -implicitDefEqProofs [*]))
  refine DrawLate.by (Cls [(bm,.arr T.apiMove (mvE x))] []) (by simp [*]) ?_
  repeat' (first 
   | (with_reducible refine Rets.xcall (ms _) ?_)
   | (simp -dsimp -implicitDefEqProofs [*]))
  refine k87 (PRound.le q5m hrd) fun e st' hq=>?_
  obtain⟨rfl,s2,hs2,rfl⟩:=hq
  have hc2:=hcl s2 hs2
  clear hcl hrd
  repeat' (simp -dsimp -implicitDefEqProofs [*])
  exact Next.intro (i+1,s2) ⟨hin,hs2⟩ (by simp only; omega) (by simp) (.refl _)
 ·obtain rfl:i=l.length:=by omega
  rw [List.take_of_length_le (Nat.le_refl _)] at hs
  clear hround hok
  repeat' (simp -dsimp -implicitDefEqProofs [*])
  exact .same ⟨rfl,s,hs,rfl⟩
open Go.Pv Go.Pv.Cd
set_option maxRecDepth 100000
set_option maxHeartbeats 4000000
set_option linter.unusedVariables false
abbrev mS (r:PR Note)(C:List PV)(cap cb pb:Nat)(st:q5c):q5c:=(cb,z0d pb r.peers.length cap (r.q.map q7m))::(pb,k7v r.peers C)::st
theorem k9t (r:PR Note)(j:Nat)(n:Note):(r.toAll j n).map q7m=k2j j n r.peers.length:=by
 unfold PR.toAll k2j
 rw [List.map_map]
 rfl
theorem z6u (r:PR Note)(a b:Nat):(r.all a b).map q7m=k3x a b (r.know a):=by
 unfold PR.all k3x
 rw [List.map_map]
 rfl
theorem y2r {r:PR Note}{m:Nat}{U:List Note}(h:InR r m U)(hm:m<=24)(hU:U.length<=1000)(hq:r.q.length<=3000)(x:Mv Note)(j:Nat)(hj:x.peer=j)(hjm:j<m)(hn:q5s x.note=true)(C:List PV)(cap cb pb:Nat)(hcap:m<=cap/\cap<=9223372036854775807)(st:q5c)(hcb:q50 st cb)(hpb:q50 st pb)(hne:¬ cb=pb/\¬ pb=cb) :
  Does P F.q02 [.ptr cb 0,.agg (mvE x)] (mS r C cap cb pb st) (.tuple []) (mS ((r.learn q6v j x.note).send (r.toAll j x.note)) C cap cb pb st):=by
 have hlen:=h.len
 have hjl:j<r.peers.length:=by omega
 have hpk:=h.pk hm
 have hpt:∀ p ∈ k2j j x.note m,pkB p=true:=fun p hp=>by
  have h2:InR ((r.learn q6v j x.note).send (r.toAll j x.note)) m (x.note::U):=((h.mono (T':=x.note::U) fun y hy=>List.mem_cons_of_mem _ hy).learn cmpN_ord hn (List.mem_cons_self ..)).send ((h.mono (T':=x.note::U) fun y hy=>List.mem_cons_of_mem _ hy).toAll hjm hn (List.mem_cons_self ..))
  refine h2.pk hm p ?_
  show p ∈ (r.q++r.toAll j x.note).map q7m
  rw [List.map_append,k9t,hlen]
  exact List.mem_append_right _ hp
 have hpl:(k2j j x.note m).length<=24:=by
  unfold k2j
  rw [List.length_map]
  exact Nat.le_trans (List.length_filter_le ..) (by rw [List.length_range]; exact hm)
 have hp:=h.peer (List.getElem_mem hjl)
 have fs:=fun st=>k1w x.note st
 rw [hn] at fs
 have e1:((r.learn q6v j x.note).send (r.toAll j x.note)).q.map q7m=r.q.map q7m++k2j j x.note m:=by
  show (r.q++r.toAll j x.note).map q7m=_
  rw [List.map_append,k9t,hlen]
 have e2:((r.learn q6v j x.note).send (r.toAll j x.note)).peers=r.peers.set j (k6a q6v r.peers[j] x.note):=by
  show r.peers.set j (k6a q6v (r.know j) x.note)=_
  unfold PR.know
  rw [List.getD_eq_getElem?_getD,List.getElem?_eq_getElem hjl]
  rfl
 unfold mS
 rw [e1,e2,List.length_set]
 have lm:=fun st' (a:q50 st' cb) (b:q50 st' pb)=>z2d r.peers C (r.q.map q7m) j cap hjl (by omega) (by omega) hp.1 (by omega) x.note hn cb pb st' a b hne
 have pm:=fun st' a=>k5z pb r.peers.length cap (r.q.map q7m) j (by omega) cb st' a
 have gv:=fun bc bm=>z9s x hn j hj pb m cap cb bc bm hm (r.peers.set j (k6a q6v r.peers[j] x.note)) C
 have sp:=fun bc bm st' ok b=>z2e (xs:=k2j j x.note m) H.q11.enters (r.q.map q7m) pb m cap cb st' (gv bc bm) ok (fun p hp=>(List.mem_append.1 hp).elim (hpk p) (hpt p)) (by rw [List.length_map]; omega) b
 subst hlen
 clear e1 e2 h hp hpk hpt
 generalize hP2:r.peers.set j (k6a q6v r.peers[j] x.note)=P2 at *
 have hP2l:P2.length=r.peers.length:=by rw [<-hP2,List.length_set]
 clear hP2
 generalize r.peers=peers at *
 generalize r.q.map q7m=Q at *
 refine H.q02.view q5l rfl rfl ?_
 repeat' (first 
  | (with_reducible refine Fresh.intro fun b hb=>?_) <;> (try simp -dsimp -implicitDefEqProofs [*] at hb)
  | (with_reducible refine Rets.xcall (pm _ (by simp [*])) ?_)
  | (with_reducible refine Rets.xcall (fs _) ?_)
  | (with_reducible refine Rets.xcall (q9v _ _) ?_)
  | (simp -dsimp -implicitDefEqProofs [*]))
 revert b; intro bm hbm
 refine Does.xcall (Does.le (lm ((bm,.arr T.apiMove (mvE x))::(b,.arr T.q46 [.ptr cb 0])::st) (by simp [*]) (by simp [*])) q5m) ?_
 clear lm fs pm
 repeat' (simp -dsimp -implicitDefEqProofs [*])
 refine Does.xcall (Does.le (sp b bm ((pb,k7v P2 C)::(bm,.arr T.apiMove (mvE x))::(b,.arr T.q46 [.ptr cb 0])::st) (fun q' s hs=>⟨hs _ _ (by simp [*]),hs _ _ (by simp [*]),⟨q',hs _ _ (by simp)⟩,hs _ _ (by simp [*])⟩) (by simp [*])) q5m) ?_
 clear sp gv
 repeat' (simp -dsimp -implicitDefEqProofs [*])
 exact RetView.drop (st':=(cb,z0d pb peers.length cap (Q++k2j j x.note peers.length))::(pb,k7v P2 C)::st) q5m ⟨rfl,rfl⟩
theorem j83 (x:Mv Note)(pb m cap:Nat)(q:List Pk)(hp:¬ (0<=x.peer/\x.peer<m))(cb:Nat)(st:q5c):Panics P F.q02 [.ptr cb 0,.agg (mvE x)] ((cb,z0d pb m cap q)::st) (.iface T.apiErrno (.int 1)):=by
 have pn:=fun st' a=>z38 pb m cap q x.peer hp cb st' a
 clear hp
 refine H.q02.panics q5l rfl rfl ?_
 repeat' (first 
  | (with_reducible refine Fresh.intro fun b hb=>?_) <;> (try simp -dsimp -implicitDefEqProofs [*] at hb)
  | (with_reducible refine Panics.xcall (pn _ (by simp [*])) ?_)
  | (simp -dsimp -implicitDefEqProofs [*]))
theorem j84 (x:Mv Note)(pb m cap:Nat)(q:List Pk)(hp:0<=x.peer/\x.peer<m)(hf:q5s x.note=false)(cb:Nat)(st:q5c):Panics P F.q02 [.ptr cb 0,.agg (mvE x)] ((cb,z0d pb m cap q)::st) (.iface T.apiErrno (.int 580)):=by
 have pn:=fun st' a=>k5z pb m cap q x.peer hp cb st' a
 have fs:=fun st=>k1w x.note st
 rw [hf] at fs
 clear hp hf
 refine H.q02.panics q5l rfl rfl ?_
 repeat' (first 
  | (with_reducible refine Fresh.intro fun b hb=>?_) <;> (try simp -dsimp -implicitDefEqProofs [*] at hb)
  | (with_reducible refine Rets.xcall (pn _ (by simp [*])) ?_)
  | (with_reducible refine Rets.xcall (fs _) ?_)
  | (with_reducible refine Panics.xcall (k0n _ _) ?_)
  | (simp -dsimp -implicitDefEqProofs [*]))
theorem y2s {r:PR Note}{m:Nat}{U:List Note}(h:InR r m U)(hm:m<=24)(hU:U.length<=1000)(hq:r.q.length<=3000)(x:Mv Note)(j t:Nat)(hj:x.peer=j)(ht:x.to=t)(hjm:j<m)(htm:t<m)(hjt:j ≠ t)(C:List PV)(cap cb pb:Nat)(hcap:m<=cap/\cap<=9223372036854775807)(st:q5c)(hcb:q50 st cb)(hpb:q50 st pb)(hne:¬ cb=pb/\¬ pb=cb) :
  Does P F.q1h [.ptr cb 0,.agg (mvE x)] (mS r C cap cb pb st) (.tuple []) (mS (r.send (r.all j t)) C cap cb pb st):=by
 have hlen:=h.len
 have hjl:j<r.peers.length:=by omega
 have hpk:=h.pk hm
 have hpt:∀ p ∈ k3x j t (r.know j),pkB p=true:=fun p hp=>by
  have h2:InR (r.send (r.all j t)) m U:=h.send (h.alls hjm htm hjt)
  refine h2.pk hm p ?_
  show p ∈ (r.q++r.all j t).map q7m
  rw [List.map_append,z6u]
  exact List.mem_append_right _ hp
 have hp:=h.peer (z3u hjl)
 have hpl:(k3x j t (r.know j)).length<=1000:=by
  unfold k3x
  rw [List.length_map]
  omega
 have e1:(r.send (r.all j t)).q.map q7m=r.q.map q7m++k3x j t (r.know j):=by
  show (r.q++r.all j t).map q7m=_
  rw [List.map_append,z6u]
 have e2:(r.send (r.all j t)).peers=r.peers:=rfl
 have e3:r.peers[j]?=some (r.know j):=by
  unfold PR.know
  rw [List.getD_eq_getElem?_getD,List.getElem?_eq_getElem hjl]
  rfl
 unfold mS
 rw [e1,e2]
 have pm:=fun (k:Nat) (hk:k<r.peers.length) st' a=>k5z pb r.peers.length cap (r.q.map q7m) k (by omega) cb st' a
 have gv:=fun bc bm=>z9t x j t hj ht pb m cap cb bc bm hm r.peers C hlen hjm (r.know j) e3 (by omega) hp.1.1
 have sp:=fun bc bm st' ok b=>z2e (xs:=k3x j t (r.know j)) H.q12.enters (r.q.map q7m) pb m cap cb st' (gv bc bm) ok (fun p hp=>(List.mem_append.1 hp).elim (hpk p) (hpt p)) (by rw [List.length_map]; omega) b
 subst hlen
 clear e1 e2 e3 h hp hpk hpt
 generalize r.know j=L at *
 generalize r.peers=peers at *
 generalize r.q.map q7m=Q at *
 have p1:=pm j hjl
 have p2:=pm t htm
 have hjt2:¬ (j:Int)=t:=by omega
 clear pm
 refine H.q1h.view q5l rfl rfl ?_
 repeat' (first 
  | (with_reducible refine Fresh.intro fun b hb=>?_) <;> (try simp -dsimp -implicitDefEqProofs [*] at hb)
  | (with_reducible refine Rets.xcall (p1 _ (by simp [*])) ?_)
  | (with_reducible refine Rets.xcall (p2 _ (by simp [*])) ?_)
  | (with_reducible refine Rets.xcall (q9v _ _) ?_)
  | (simp -dsimp -implicitDefEqProofs [*]))
 revert b; intro bm hbm
 refine Does.xcall (Does.le (sp b bm ((pb,k7v peers C)::(bm,.arr T.apiMove (mvE x))::(b,.arr T.q46 [.ptr cb 0])::st) (fun q' s hs=>⟨hs _ _ (by simp [*]),hs _ _ (by simp [*]),⟨q',hs _ _ (by simp)⟩,hs _ _ (by simp [*])⟩) (by simp [*])) q5m) ?_
 clear sp gv
 repeat' (simp -dsimp -implicitDefEqProofs [*])
 exact RetView.drop (st':=(cb,z0d pb peers.length cap (Q++k3x j t L))::(pb,k7v peers C)::st) q5m ⟨rfl,rfl⟩
theorem y2t (x:Mv Note)(pb m cap:Nat)(q:List Pk)(hp:¬ ((0<=x.peer/\x.peer<m)/\(0<=x.to/\x.to<m)/\x.peer ≠ x.to))(cb:Nat)(st:q5c):Panics P F.q1h [.ptr cb 0,.agg (mvE x)] ((cb,z0d pb m cap q)::st) (.iface T.apiErrno (.int 1)):=by
 refine H.q1h.panics q5l rfl rfl ?_
 by_cases h1:0<=x.peer/\x.peer<m
 case neg=>
  have pn:=fun st' a=>z38 pb m cap q x.peer h1 cb st' a
  clear hp h1
  repeat' (first 
   | (with_reducible refine Fresh.intro fun b hb=>?_) <;> (try simp -dsimp -implicitDefEqProofs [*] at hb)
   | (with_reducible refine Panics.xcall (pn _ (by simp [*])) ?_)
   | (simp -dsimp -implicitDefEqProofs [*]))
 have p1:=fun st' a=>k5z pb m cap q x.peer h1 cb st' a
 by_cases h2:0<=x.to/\x.to<m
 case neg=>
  have pn:=fun st' a=>z38 pb m cap q x.to h2 cb st' a
  clear hp h1 h2
  ·repeat' (first 
    | (with_reducible refine Fresh.intro fun b hb=>?_) <;> (try simp -dsimp -implicitDefEqProofs [*] at hb)
    | (with_reducible refine Rets.xcall (p1 _ (by simp [*])) ?_)
    | (with_reducible refine Panics.xcall (pn _ (by simp [*])) ?_)
    | (simp -dsimp -implicitDefEqProofs [*]))
 have p2:=fun st' a=>k5z pb m cap q x.to h2 cb st' a
 have h3:x.peer=x.to:=Classical.byContradiction fun h=>hp ⟨h1,h2,h⟩
 clear hp h1 h2
 repeat' (first 
  | (with_reducible refine Fresh.intro fun b hb=>?_) <;> (try simp -dsimp -implicitDefEqProofs [*] at hb)
  | (with_reducible refine Rets.xcall (p2 _ (by simp [*])) ?_)
  | (with_reducible refine Panics.xcall (k0n _ _) ?_)
  | (simp -dsimp -implicitDefEqProofs [*]))
theorem z6v (l:List (Nat × Nat × Note))(k:Nat):(l.eraseIdx k).map q7m=(l.map q7m).eraseIdx k:=by
 rw [List.eraseIdx_eq_take_drop_succ,List.eraseIdx_eq_take_drop_succ,List.map_append,List.map_take,List.map_drop]
theorem j85 {r:PR Note}{m:Nat}{U:List Note}(h:InR r m U)(hm:m<=24)(hq:r.q.length<=3000)(x:Mv Note)(k:Nat)(hk:x.at'=k)(hkq:k<r.q.length)(C:List PV)(cap cb pb:Nat)(st:q5c)(hcb:q50 st cb)(hpb:q50 st pb)(hne:¬ cb=pb/\¬ pb=cb) :
  Does P F.q1i [.ptr cb 0,.agg (mvE x)] (mS r C cap cb pb st) (.tuple []) (mS (r.drop k) C cap cb pb st):=by
 have lo:=fun st=>y2n (r.q.map q7m) (by rw [List.length_map]; omega) (h.pk hm) k (by rw [List.length_map]; exact hkq) st
 rw [<-z6v] at lo
 unfold mS PR.drop
 simp only
 generalize (r.q.eraseIdx k).map q7m=Q2 at *
 generalize r.q.map q7m=Q at *
 clear h
 refine H.q1i.view q5l rfl rfl ?_
 repeat' (first 
  | (with_reducible refine Fresh.intro fun b hb=>?_) <;> (try simp -dsimp -implicitDefEqProofs [*] at hb)
  | (with_reducible refine q6f (fun _=>lo _) ?_)
  | (with_reducible refine Rets.xcall (q9v _ _) ?_)
  | (with_reducible refine DrawLate.intro [] ?_)
  | (with_reducible refine q59 ?_ ?_)
  | (with_reducible exact Cls.self _ _)
  | (with_reducible refine q6p ?_ ?_)
  | (simp -dsimp -implicitDefEqProofs [*]))
 exact RetView.drop (st':=(cb,z0d pb r.peers.length cap Q2)::(pb,k7v r.peers C)::st) q5m ⟨rfl,rfl⟩
theorem j86 {r:PR Note}{m:Nat}{U:List Note}(h:InR r m U)(hm:m<=24)(hq:r.q.length<=3000)(x:Mv Note)(hk:¬ (0<=x.at'/\x.at'<r.q.length))(C:List PV)(cap cb pb:Nat)(st:q5c) :
  Panics P F.q1i [.ptr cb 0,.agg (mvE x)] (mS r C cap cb pb st) (.iface T.apiErrno (.int 1)):=by
 have lo:=fun st=>y2o (r.q.map q7m) (by rw [List.length_map]; omega) (h.pk hm) x.at' (by rw [List.length_map]; exact hk) st
 unfold mS
 generalize r.q.map q7m=Q at *
 clear h hk
 refine H.q1i.panics q5l rfl rfl ?_
 repeat' (first 
  | (with_reducible refine Fresh.intro fun b hb=>?_) <;> (try simp -dsimp -implicitDefEqProofs [*] at hb)
  | (with_reducible refine q6f (fun _=>lo _) ?_)
  | (with_reducible refine Panics.xcall (k0n _ _) ?_)
  | (with_reducible refine DrawLate.intro [] ?_)
  | (with_reducible refine q59 ?_ ?_)
  | (with_reducible exact Cls.self _ _)
  | (with_reducible refine q6p ?_ ?_)
  | (simp -dsimp -implicitDefEqProofs [*]))
theorem j27 {r:PR Note}{m:Nat}{U:List Note}(h:InR r m U)(hm:m<=24)(hq:r.q.length<=3000)(x:Mv Note)(k:Nat)(hk:x.at'=k)(hkq:k<r.q.length)(C:List PV)(cap cb pb:Nat)(st:q5c)(hcb:q50 st cb)(hpb:q50 st pb)(hne:¬ cb=pb/\¬ pb=cb) :
  Does P F.q07 [.ptr cb 0,.agg (mvE x)] (mS r C cap cb pb st) (.tuple []) (mS (r.rep k) C cap cb pb st):=by
 have lo:=fun st=>j54 (r.q.map q7m) (by rw [List.length_map]; omega) (h.pk hm) k (by rw [List.length_map]; exact hkq) st
 have e:r.rep k={ r with q:=r.q++[r.q[k]] }:=by unfold PR.rep; rw [List.getElem?_eq_getElem hkq]
 have e2:r.q.map q7m++[(r.q.map q7m)[k]'(by rw [List.length_map]; exact hkq)]=(r.q++[r.q[k]]).map q7m:=by rw [List.map_append,List.getElem_map]; rfl
 rw [e2] at lo
 rw [e]
 unfold mS
 simp only
 clear e e2 h
 generalize (r.q++[r.q[k]]).map q7m=Q2 at *
 generalize r.q.map q7m=Q at *
 refine H.q07.view q5l rfl rfl ?_
 repeat' (first 
  | (with_reducible refine Fresh.intro fun b hb=>?_) <;> (try simp -dsimp -implicitDefEqProofs [*] at hb)
  | (with_reducible refine q6f (fun _=>lo _) ?_)
  | (with_reducible refine Rets.xcall (q9v _ _) ?_)
  | (with_reducible refine DrawLate.intro [] ?_)
  | (with_reducible refine q59 ?_ ?_)
  | (with_reducible exact Cls.self _ _)
  | (with_reducible refine q6p ?_ ?_)
  | (simp -dsimp -implicitDefEqProofs [*]))
 exact RetView.drop (st':=(cb,z0d pb r.peers.length cap Q2)::(pb,k7v r.peers C)::st) q5m ⟨rfl,rfl⟩
theorem j28 {r:PR Note}{m:Nat}{U:List Note}(h:InR r m U)(hm:m<=24)(hq:r.q.length<=3000)(x:Mv Note)(hk:¬ (0<=x.at'/\x.at'<r.q.length))(C:List PV)(cap cb pb:Nat)(st:q5c) :
  Panics P F.q07 [.ptr cb 0,.agg (mvE x)] (mS r C cap cb pb st) (.iface T.apiErrno (.int 1)):=by
 have lo:=fun st=>j55 (r.q.map q7m) (by rw [List.length_map]; omega) (h.pk hm) x.at' (by rw [List.length_map]; exact hk) st
 unfold mS
 generalize r.q.map q7m=Q at *
 clear h hk
 refine H.q07.panics q5l rfl rfl ?_
 repeat' (first 
  | (with_reducible refine Fresh.intro fun b hb=>?_) <;> (try simp -dsimp -implicitDefEqProofs [*] at hb)
  | (with_reducible refine q6f (fun _=>lo _) ?_)
  | (with_reducible refine Panics.xcall (k0n _ _) ?_)
  | (with_reducible refine DrawLate.intro [] ?_)
  | (with_reducible refine q59 ?_ ?_)
  | (with_reducible exact Cls.self _ _)
  | (with_reducible refine q6p ?_ ?_)
  | (simp -dsimp -implicitDefEqProofs [*]))
theorem z9u {r:PR Note}{m:Nat}{U:List Note}(h:InR r m U)(hm:m<=24)(hq:r.q.length<=3000)(x:Mv Note)(hk:¬ (0<=x.at'/\x.at'<r.q.length))(C:List PV)(cap cb pb:Nat)(st:q5c) :
  Panics P F.q03 [.ptr cb 0,.agg (mvE x)] (mS r C cap cb pb st) (.iface T.apiErrno (.int 1)):=by
 have lo:=fun st=>j22 (r.q.map q7m) (by rw [List.length_map]; omega) (h.pk hm) x.at' (by rw [List.length_map]; exact hk) st
 unfold mS
 generalize r.q.map q7m=Q at *
 clear h hk
 refine H.q03.panics q5l rfl rfl ?_
 repeat' (first 
  | (with_reducible refine Fresh.intro fun b hb=>?_) <;> (try simp -dsimp -implicitDefEqProofs [*] at hb)
  | (simp -dsimp -implicitDefEqProofs [*]))
 refine DrawFork.intro [] ?_
 repeat' (first 
  | (with_reducible refine q6f (fun _=>lo _) ?_)
  | (simp -dsimp -implicitDefEqProofs [*]))
 refine⟨?_, ?_⟩
 ·repeat' (first 
   | (with_reducible refine Fresh.intro fun b hb=>?_) <;> (try simp -dsimp -implicitDefEqProofs [*] at hb)
   | (with_reducible refine Panics.xcall (k0n _ _) ?_)
   | (with_reducible refine q59 ?_ ?_)
   | (with_reducible exact Cls.self _ _)
   | (with_reducible refine q6p ?_ ?_)
   | (simp -dsimp -implicitDefEqProofs [*]))
 ·repeat' (first 
   | (with_reducible refine Fresh.intro fun b hb=>?_) <;> (try simp -dsimp -implicitDefEqProofs [*] at hb)
   | (with_reducible refine Panics.xcall (k0n _ _) ?_)
   | (with_reducible refine q59 ?_ ?_)
   | (with_reducible exact Cls.self _ _)
   | (with_reducible refine q6p ?_ ?_)
   | (simp -dsimp -implicitDefEqProofs [*]))
theorem z9v {r:PR Note}{m:Nat}{U:List Note}(h:InR r m U)(hm:m<=24)(hU:U.length<=1000)(hq:r.q.length<=3000)(x:Mv Note)(k:Nat)(hk:x.at'=k)(hkq:k<r.q.length)(C:List PV)(cap cb pb:Nat)(hcap:m<=cap/\cap<=9223372036854775807)(st:q5c)(hcb:q50 st cb)(hpb:q50 st pb)(hne:¬ cb=pb/\¬ pb=cb) :
  Does P F.q03 [.ptr cb 0,.agg (mvE x)] (mS r C cap cb pb st) (.tuple []) (mS (r.deliver q6v k) C cap cb pb st):=by
 have lo:=fun st=>j21 (r.q.map q7m) (by rw [List.length_map]; omega) (h.pk hm) k (by rw [List.length_map]; exact hkq) st
 rw [<-z6v,List.getElem_map] at lo
 have hlen:=h.len
 have hx:=h.q _ (List.getElem_mem hkq)
 have e:r.deliver q6v k=(r.drop k).learn q6v r.q[k].2.1 r.q[k].2.2:=by
  unfold PR.deliver
  rw [List.getElem?_eq_getElem hkq]
  have:cutB r.ap r.q[k].1 r.q[k].2.1=false:=by rw [h.ap]; rfl
  simp only [this,Bool.false_eq_true,if_false]
 generalize r.q[k]=p at *
 obtain⟨a,t,n⟩:=p
 simp only at hx e
 obtain⟨x1,x2,x3,x4, -⟩:=hx
 have htl:t<r.peers.length:=by omega
 have hp:=h.peer (List.getElem_mem htl)
 rw [e]
 have e2:((r.drop k).learn q6v t n).peers=r.peers.set t (k6a q6v r.peers[t] n):=by
  show r.peers.set t (k6a q6v (r.know t) n)=_
  unfold PR.know
  rw [List.getD_eq_getElem?_getD,List.getElem?_eq_getElem htl]
  rfl
 have e3:((r.drop k).learn q6v t n).q=r.q.eraseIdx k:=rfl
 have lm:=z2d r.peers C ((r.q.eraseIdx k).map q7m) t cap htl (by omega) (by omega) hp.1 (by omega) n x4 cb pb st hcb hpb hne
 have rd:=fun st=>z2b n x4 st
 unfold mS
 rw [e2,e3,List.length_set]
 clear e e2 e3 h hp
 have hat:¬ (a:Int)=t:=by omega
 generalize r.peers.set t (k6a q6v r.peers[t] n)=P2 at *
 generalize (r.q.eraseIdx k).map q7m=Q2 at *
 generalize r.q.map q7m=Q at *
 refine H.q03.view q5l rfl rfl ?_
 subst hlen
 repeat' (first 
  | (with_reducible refine Fresh.intro fun b hb=>?_) <;> (try simp -dsimp -implicitDefEqProofs [*] at hb)
  | (simp -dsimp -implicitDefEqProofs [*]))
 refine DrawFork.intro [] ?_
 repeat' (first 
  | (with_reducible refine q6f (fun _=>lo _) ?_)
  | (simp -dsimp -implicitDefEqProofs [q7m, *]))
 refine⟨?_, ?_⟩
 ·repeat' (first 
   | (with_reducible refine Fresh.intro fun b hb=>?_) <;> (try simp -dsimp -implicitDefEqProofs [*] at hb)
   | (with_reducible refine Rets.xcall (q9v _ _) ?_)
   | (with_reducible refine Rets.xcall (rd _) ?_)
   | (with_reducible refine q59 ?_ ?_)
   | (with_reducible exact Cls.self _ _)
   | (with_reducible refine q6p ?_ ?_)
   | (simp -dsimp -implicitDefEqProofs [q7m, *]))
  refine Does.xcall (Does.le lm q5m) ?_
  repeat' (simp -dsimp -implicitDefEqProofs [*])
  exact .same ⟨rfl,rfl⟩
 ·repeat' (first 
   | (with_reducible refine Fresh.intro fun b hb=>?_) <;> (try simp -dsimp -implicitDefEqProofs [*] at hb)
   | (with_reducible refine Rets.xcall (q9v _ _) ?_)
   | (with_reducible refine Rets.xcall (rd _) ?_)
   | (with_reducible refine q59 ?_ ?_)
   | (with_reducible exact Cls.self _ _)
   | (with_reducible refine q6p ?_ ?_)
   | (simp -dsimp -implicitDefEqProofs [q7m, *]))
  refine Does.xcall (Does.le lm q5m) ?_
  repeat' (simp -dsimp -implicitDefEqProofs [*])
  exact .same ⟨rfl,rfl⟩
end Go.Proofs.YtmlmoaimjifpgaaGreat
