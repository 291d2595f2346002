/- Parties: the five moves. -/
import Derived.Test.YtmlmoaimjifpgaaGreatL58S
namespace Go.Proofs.YtmlmoaimjifpgaaGreat
open Go.Pv Go.Pv.Cd
set_option maxRecDepth 100000
set_option maxHeartbeats 4000000
set_option linter.unusedVariables false
abbrev mS (ap:List Lk)(r:PR Note)(C:List PV)(cap cb pb:Nat)(st:q5f):q5f:=(cb,k8e ap pb r.peers.length cap (r.q.map q6d))::(pb,k63 r.peers C)::st
theorem k9y (r:PR Note)(j:Nat)(n:Note):(r.toAll j n).map q6d=k2p j n r.peers.length:=by
 unfold PR.toAll k2p
 rw [List.map_map]
 rfl
theorem z6z (r:PR Note)(a b:Nat):(r.all a b).map q6d=k34 a b (r.know a):=by
 unfold PR.all k34
 rw [List.map_map]
 rfl
theorem y21 {ap:List Lk}(hap:LksOK ap){r:PR Note}{m:Nat}{U:List Note}(h:InR r m U)(hm:m<=24)(hU:U.length<=1000)(hq:r.q.length<=3000)(x:Mv Note)(j:Nat)(hj:x.peer=j)(hjm:j<m)(hn:q5q x.note=true)(C:List PV)(cap cb pb:Nat)(hcap:m<=cap/\cap<=9223372036854775807)(st:q5f)(hcb:q54 st cb)(hpb:q54 st pb)(hne:¬ cb=pb/\¬ pb=cb) :
  Does P F.q03 [.ptr cb 0,.agg (mvE x)] (mS ap r C cap cb pb st) (.tuple []) (mS ap ((r.learn q6p j x.note).send (r.toAll j x.note)) C cap cb pb st):=by
 have hlen:=h.len
 have hjl:j<r.peers.length:=by omega
 have hpk:=h.pk hm
 have hpt:∀ p ∈ k2p j x.note m,pkB p=true:=fun p hp=>by
  have h2:InR ((r.learn q6p j x.note).send (r.toAll j x.note)) m (x.note::U):=((h.mono (T':=x.note::U) fun y hy=>List.mem_cons_of_mem _ hy).learn cmpN_ord hn (List.mem_cons_self ..)).send ((h.mono (T':=x.note::U) fun y hy=>List.mem_cons_of_mem _ hy).toAll hjm hn (List.mem_cons_self ..))
  refine h2.pk hm p ?_
  show p ∈ (r.q++r.toAll j x.note).map q6d
  rw [List.map_append,k9y,hlen]
  exact List.mem_append_right _ hp
 have hpl:(k2p j x.note m).length<=24:=by
  unfold k2p
  rw [List.length_map]
  exact Nat.le_trans (List.length_filter_le ..) (by rw [List.length_range]; exact hm)
 have hp:=h.peer (List.getElem_mem hjl)
 have fs:=fun st=>k2g x.note st
 rw [hn] at fs
 have e1:((r.learn q6p j x.note).send (r.toAll j x.note)).q.map q6d=r.q.map q6d++k2p j x.note m:=by
  show (r.q++r.toAll j x.note).map q6d=_
  rw [List.map_append,k9y,hlen]
 have e2:((r.learn q6p j x.note).send (r.toAll j x.note)).peers=r.peers.set j (k78 q6p r.peers[j] x.note):=by
  show r.peers.set j (k78 q6p (r.know j) x.note)=_
  unfold PR.know
  rw [List.getD_eq_getElem?_getD,List.getElem?_eq_getElem hjl]
  rfl
 unfold mS
 rw [e1,e2,List.length_set]
 have lm:=fun st' (a:q54 st' cb) (b:q54 st' pb)=>z18 ap r.peers C (r.q.map q6d) j cap hjl (by omega) (by omega) hp.1 (by omega) x.note hn cb pb st' a b hne
 have pm:=fun st' a=>k6e ap pb r.peers.length cap (r.q.map q6d) j (by omega) cb st' a
 have gv:=fun bc bm=>z9m ap x hn j hj pb m cap cb bc bm hm (r.peers.set j (k78 q6p r.peers[j] x.note)) C
 have sp:=fun bc bm st' ok b=>z19 hap (xs:=k2p j x.note m) H.q13.enters (r.q.map q6d) pb m cap cb st' (gv bc bm) ok (fun p hp=>(List.mem_append.1 hp).elim (hpk p) (hpt p)) (by rw [List.length_map]; omega) b
 subst hlen
 clear e1 e2 h hp hpk hpt
 generalize hP2:r.peers.set j (k78 q6p r.peers[j] x.note)=P2 at *
 have hP2l:P2.length=r.peers.length:=by rw [<-hP2,List.length_set]
 clear hP2
 generalize r.peers=peers at *
 generalize r.q.map q6d=Q at *
 refine H.q03.view q5n rfl rfl ?_
 repeat' (first 
  | (with_reducible refine Fresh.intro fun b hb=>?_) <;> (try simp -dsimp -implicitDefEqProofs [*] at hb)
  | (with_reducible refine Rets.xcall (pm _ (by simp [*])) ?_)
  | (with_reducible refine Rets.xcall (fs _) ?_)
  | (with_reducible refine Rets.xcall (q82 _ _) ?_)
  | (simp -dsimp -implicitDefEqProofs [*]))
 revert b; intro bm hbm
 refine Does.xcall (Does.le (lm ((bm,.arr T.apiMove (mvE x))::(b,.arr T.q49 [.ptr cb 0])::st) (by simp [*]) (by simp [*])) q5o) ?_
 clear lm fs pm
 repeat' (simp -dsimp -implicitDefEqProofs [*])
 refine Does.xcall (Does.le (sp b bm ((pb,k63 P2 C)::(bm,.arr T.apiMove (mvE x))::(b,.arr T.q49 [.ptr cb 0])::st) (fun q' s hs=>⟨hs _ _ (by simp [*]),hs _ _ (by simp [*]),⟨q',hs _ _ (by simp)⟩,hs _ _ (by simp [*])⟩) (by simp [*])) q5o) ?_
 clear sp gv
 repeat' (simp -dsimp -implicitDefEqProofs [*])
 exact RetView.drop (st':=(cb,k8e ap pb peers.length cap (Q++k2p j x.note peers.length))::(pb,k63 P2 C)::st) q5o ⟨rfl,rfl⟩
theorem j81 (ap:List Lk)(x:Mv Note)(pb m cap:Nat)(q:List Pk)(hp:¬ (0<=x.peer/\x.peer<m))(cb:Nat)(st:q5f):Panics P F.q03 [.ptr cb 0,.agg (mvE x)] ((cb,k8e ap pb m cap q)::st) (.iface T.apiErrno (.int 1)):=by
 have pn:=fun st' a=>z35 ap pb m cap q x.peer hp cb st' a
 clear hp
 refine H.q03.panics q5n rfl rfl ?_
 repeat' (first 
  | (with_reducible refine Fresh.intro fun b hb=>?_) <;> (try simp -dsimp -implicitDefEqProofs [*] at hb)
  | (with_reducible refine Panics.xcall (pn _ (by simp [*])) ?_)
  | (simp -dsimp -implicitDefEqProofs [*]))
theorem j82 (ap:List Lk)(x:Mv Note)(pb m cap:Nat)(q:List Pk)(hp:0<=x.peer/\x.peer<m)(hf:q5q x.note=false)(cb:Nat)(st:q5f):Panics P F.q03 [.ptr cb 0,.agg (mvE x)] ((cb,k8e ap pb m cap q)::st) (.iface T.apiErrno (.int 580)):=by
 have pn:=fun st' a=>k6e ap pb m cap q x.peer hp cb st' a
 have fs:=fun st=>k2g x.note st
 rw [hf] at fs
 clear hp hf
 refine H.q03.panics q5n rfl rfl ?_
 repeat' (first 
  | (with_reducible refine Fresh.intro fun b hb=>?_) <;> (try simp -dsimp -implicitDefEqProofs [*] at hb)
  | (with_reducible refine Rets.xcall (pn _ (by simp [*])) ?_)
  | (with_reducible refine Rets.xcall (fs _) ?_)
  | (with_reducible refine Panics.xcall (k0x _ _) ?_)
  | (simp -dsimp -implicitDefEqProofs [*]))
theorem y22 {ap:List Lk}(hap:LksOK ap){r:PR Note}{m:Nat}{U:List Note}(h:InR r m U)(hm:m<=24)(hU:U.length<=1000)(hq:r.q.length<=3000)(x:Mv Note)(j t:Nat)(hj:x.peer=j)(ht:x.to=t)(hjm:j<m)(htm:t<m)(hjt:j ≠ t)(C:List PV)(cap cb pb:Nat)(hcap:m<=cap/\cap<=9223372036854775807)(st:q5f)(hcb:q54 st cb)(hpb:q54 st pb)(hne:¬ cb=pb/\¬ pb=cb) :
  Does P F.q1j [.ptr cb 0,.agg (mvE x)] (mS ap r C cap cb pb st) (.tuple []) (mS ap (r.send (r.all j t)) C cap cb pb st):=by
 have hlen:=h.len
 have hjl:j<r.peers.length:=by omega
 have hpk:=h.pk hm
 have hpt:∀ p ∈ k34 j t (r.know j),pkB p=true:=fun p hp=>by
  have h2:InR (r.send (r.all j t)) m U:=h.send (h.alls hjm htm hjt)
  refine h2.pk hm p ?_
  show p ∈ (r.q++r.all j t).map q6d
  rw [List.map_append,z6z]
  exact List.mem_append_right _ hp
 have hp:=h.peer (k79 hjl)
 have hpl:(k34 j t (r.know j)).length<=1000:=by
  unfold k34
  rw [List.length_map]
  omega
 have e1:(r.send (r.all j t)).q.map q6d=r.q.map q6d++k34 j t (r.know j):=by
  show (r.q++r.all j t).map q6d=_
  rw [List.map_append,z6z]
 have e2:(r.send (r.all j t)).peers=r.peers:=rfl
 have e3:r.peers[j]?=some (r.know j):=by
  unfold PR.know
  rw [List.getD_eq_getElem?_getD,List.getElem?_eq_getElem hjl]
  rfl
 unfold mS
 rw [e1,e2]
 have pm:=fun (k:Nat) (hk:k<r.peers.length) st' a=>k6e ap pb r.peers.length cap (r.q.map q6d) k (by omega) cb st' a
 have gv:=fun bc bm=>z9n ap x j t hj ht pb m cap cb bc bm hm r.peers C hlen hjm (r.know j) e3 (by omega) hp.1.1
 have sp:=fun bc bm st' ok b=>z19 hap (xs:=k34 j t (r.know j)) H.q14.enters (r.q.map q6d) pb m cap cb st' (gv bc bm) ok (fun p hp=>(List.mem_append.1 hp).elim (hpk p) (hpt p)) (by rw [List.length_map]; omega) b
 subst hlen
 clear e1 e2 e3 h hp hpk hpt
 generalize r.know j=L at *
 generalize r.peers=peers at *
 generalize r.q.map q6d=Q at *
 have p1:=pm j hjl
 have p2:=pm t htm
 have hjt2:¬ (j:Int)=t:=by omega
 clear pm
 refine H.q1j.view q5n rfl rfl ?_
 repeat' (first 
  | (with_reducible refine Fresh.intro fun b hb=>?_) <;> (try simp -dsimp -implicitDefEqProofs [*] at hb)
  | (with_reducible refine Rets.xcall (p1 _ (by simp [*])) ?_)
  | (with_reducible refine Rets.xcall (p2 _ (by simp [*])) ?_)
  | (with_reducible refine Rets.xcall (q82 _ _) ?_)
  | (simp -dsimp -implicitDefEqProofs [*]))
 revert b; intro bm hbm
 refine Does.xcall (Does.le (sp b bm ((pb,k63 peers C)::(bm,.arr T.apiMove (mvE x))::(b,.arr T.q49 [.ptr cb 0])::st) (fun q' s hs=>⟨hs _ _ (by simp [*]),hs _ _ (by simp [*]),⟨q',hs _ _ (by simp)⟩,hs _ _ (by simp [*])⟩) (by simp [*])) q5o) ?_
 clear sp gv
 repeat' (simp -dsimp -implicitDefEqProofs [*])
 exact RetView.drop (st':=(cb,k8e ap pb peers.length cap (Q++k34 j t L))::(pb,k63 peers C)::st) q5o ⟨rfl,rfl⟩
theorem y23 (ap:List Lk)(x:Mv Note)(pb m cap:Nat)(q:List Pk)(hp:¬ ((0<=x.peer/\x.peer<m)/\(0<=x.to/\x.to<m)/\x.peer ≠ x.to))(cb:Nat)(st:q5f):Panics P F.q1j [.ptr cb 0,.agg (mvE x)] ((cb,k8e ap pb m cap q)::st) (.iface T.apiErrno (.int 1)):=by
 refine H.q1j.panics q5n rfl rfl ?_
 by_cases h1:0<=x.peer/\x.peer<m
 case neg=>
  have pn:=fun st' a=>z35 ap pb m cap q x.peer h1 cb st' a
  clear hp h1
  repeat' (first 
   | (with_reducible refine Fresh.intro fun b hb=>?_) <;> (try simp -dsimp -implicitDefEqProofs [*] at hb)
   | (with_reducible refine Panics.xcall (pn _ (by simp [*])) ?_)
   | (simp -dsimp -implicitDefEqProofs [*]))
 have p1:=fun st' a=>k6e ap pb m cap q x.peer h1 cb st' a
 by_cases h2:0<=x.to/\x.to<m
 case neg=>
  have pn:=fun st' a=>z35 ap pb m cap q x.to h2 cb st' a
  clear hp h1 h2
  ·repeat' (first 
    | (with_reducible refine Fresh.intro fun b hb=>?_) <;> (try simp -dsimp -implicitDefEqProofs [*] at hb)
    | (with_reducible refine Rets.xcall (p1 _ (by simp [*])) ?_)
    | (with_reducible refine Panics.xcall (pn _ (by simp [*])) ?_)
    | (simp -dsimp -implicitDefEqProofs [*]))
 have p2:=fun st' a=>k6e ap pb m cap q x.to h2 cb st' a
 have h3:x.peer=x.to:=Classical.byContradiction fun h=>hp ⟨h1,h2,h⟩
 clear hp h1 h2
 repeat' (first 
  | (with_reducible refine Fresh.intro fun b hb=>?_) <;> (try simp -dsimp -implicitDefEqProofs [*] at hb)
  | (with_reducible refine Rets.xcall (p2 _ (by simp [*])) ?_)
  | (with_reducible refine Panics.xcall (k0x _ _) ?_)
  | (simp -dsimp -implicitDefEqProofs [*]))
theorem k1p (l:List (Nat × Nat × Note))(k:Nat):(l.eraseIdx k).map q6d=(l.map q6d).eraseIdx k:=by
 rw [List.eraseIdx_eq_take_drop_succ,List.eraseIdx_eq_take_drop_succ,List.map_append,List.map_take,List.map_drop]
theorem j83 {ap:List Lk}(hap:LksOK ap){r:PR Note}{m:Nat}{U:List Note}(h:InR r m U)(hm:m<=24)(hq:r.q.length<=3000)(x:Mv Note)(k:Nat)(hk:x.at'=k)(hkq:k<r.q.length)(C:List PV)(cap cb pb:Nat)(st:q5f)(hcb:q54 st cb)(hpb:q54 st pb)(hne:¬ cb=pb/\¬ pb=cb) :
  Does P F.q1k [.ptr cb 0,.agg (mvE x)] (mS ap r C cap cb pb st) (.tuple []) (mS ap (r.drop k) C cap cb pb st):=by
 have lo:=fun st=>j8w (r.q.map q6d) ap hap.1 (by rw [List.length_map]; omega) (hap.net (by rw [List.length_map]; omega) (h.pk hm)) k (by rw [List.length_map]; exact hkq) st
 rw [<-k1p] at lo
 unfold mS PR.drop
 simp only
 generalize (r.q.eraseIdx k).map q6d=Q2 at *
 generalize r.q.map q6d=Q at *
 clear h
 refine H.q1k.view q5n rfl rfl ?_
 repeat' (first 
  | (with_reducible refine Fresh.intro fun b hb=>?_) <;> (try simp -dsimp -implicitDefEqProofs [*] at hb)
  | (with_reducible refine q56 (fun _=>lo _) ?_)
  | (with_reducible refine Rets.xcall (q82 _ _) ?_)
  | (with_reducible refine DrawLate.intro [] ?_)
  | (with_reducible refine q6f ?_ ?_)
  | (with_reducible exact Cls.self _ _)
  | (with_reducible refine q6i ?_ ?_)
  | (simp -dsimp -implicitDefEqProofs [*]))
 exact RetView.drop (st':=(cb,k8e ap pb r.peers.length cap Q2)::(pb,k63 r.peers C)::st) q5o ⟨rfl,rfl⟩
theorem j84 {ap:List Lk}(hap:LksOK ap){r:PR Note}{m:Nat}{U:List Note}(h:InR r m U)(hm:m<=24)(hq:r.q.length<=3000)(x:Mv Note)(hk:¬ (0<=x.at'/\x.at'<r.q.length))(C:List PV)(cap cb pb:Nat)(st:q5f) :
  Panics P F.q1k [.ptr cb 0,.agg (mvE x)] (mS ap r C cap cb pb st) (.iface T.apiErrno (.int 1)):=by
 have lo:=fun st=>j8x (r.q.map q6d) ap hap.1 (by rw [List.length_map]; omega) (hap.net (by rw [List.length_map]; omega) (h.pk hm)) x.at' (by rw [List.length_map]; exact hk) st
 unfold mS
 generalize r.q.map q6d=Q at *
 clear h hk
 refine H.q1k.panics q5n rfl rfl ?_
 repeat' (first 
  | (with_reducible refine Fresh.intro fun b hb=>?_) <;> (try simp -dsimp -implicitDefEqProofs [*] at hb)
  | (with_reducible refine q56 (fun _=>lo _) ?_)
  | (with_reducible refine Panics.xcall (k0x _ _) ?_)
  | (with_reducible refine DrawLate.intro [] ?_)
  | (with_reducible refine q6f ?_ ?_)
  | (with_reducible exact Cls.self _ _)
  | (with_reducible refine q6i ?_ ?_)
  | (simp -dsimp -implicitDefEqProofs [*]))
theorem j2y {ap:List Lk}(hap:LksOK ap){r:PR Note}{m:Nat}{U:List Note}(h:InR r m U)(hm:m<=24)(hq:r.q.length<=3000)(x:Mv Note)(k:Nat)(hk:x.at'=k)(hkq:k<r.q.length)(C:List PV)(cap cb pb:Nat)(st:q5f)(hcb:q54 st cb)(hpb:q54 st pb)(hne:¬ cb=pb/\¬ pb=cb) :
  Does P F.q07 [.ptr cb 0,.agg (mvE x)] (mS ap r C cap cb pb st) (.tuple []) (mS ap (r.rep k) C cap cb pb st):=by
 have lo:=fun st=>j2r (r.q.map q6d) ap hap.1 (by rw [List.length_map]; omega) (hap.net (by rw [List.length_map]; omega) (h.pk hm)) k (by rw [List.length_map]; exact hkq) st
 have e:r.rep k={ r with q:=r.q++[r.q[k]] }:=by unfold PR.rep; rw [List.getElem?_eq_getElem hkq]
 have e2:r.q.map q6d++[(r.q.map q6d)[k]'(by rw [List.length_map]; exact hkq)]=(r.q++[r.q[k]]).map q6d:=by rw [List.map_append,List.getElem_map]; rfl
 rw [e2] at lo
 rw [e]
 unfold mS
 simp only
 clear e e2 h
 generalize (r.q++[r.q[k]]).map q6d=Q2 at *
 generalize r.q.map q6d=Q at *
 refine H.q07.view q5n rfl rfl ?_
 repeat' (first 
  | (with_reducible refine Fresh.intro fun b hb=>?_) <;> (try simp -dsimp -implicitDefEqProofs [*] at hb)
  | (with_reducible refine q56 (fun _=>lo _) ?_)
  | (with_reducible refine Rets.xcall (q82 _ _) ?_)
  | (with_reducible refine DrawLate.intro [] ?_)
  | (with_reducible refine q6f ?_ ?_)
  | (with_reducible exact Cls.self _ _)
  | (with_reducible refine q6i ?_ ?_)
  | (simp -dsimp -implicitDefEqProofs [*]))
 exact RetView.drop (st':=(cb,k8e ap pb r.peers.length cap Q2)::(pb,k63 r.peers C)::st) q5o ⟨rfl,rfl⟩
theorem j2z {ap:List Lk}(hap:LksOK ap){r:PR Note}{m:Nat}{U:List Note}(h:InR r m U)(hm:m<=24)(hq:r.q.length<=3000)(x:Mv Note)(hk:¬ (0<=x.at'/\x.at'<r.q.length))(C:List PV)(cap cb pb:Nat)(st:q5f) :
  Panics P F.q07 [.ptr cb 0,.agg (mvE x)] (mS ap r C cap cb pb st) (.iface T.apiErrno (.int 1)):=by
 have lo:=fun st=>j2s (r.q.map q6d) ap hap.1 (by rw [List.length_map]; omega) (hap.net (by rw [List.length_map]; omega) (h.pk hm)) x.at' (by rw [List.length_map]; exact hk) st
 unfold mS
 generalize r.q.map q6d=Q at *
 clear h hk
 refine H.q07.panics q5n rfl rfl ?_
 repeat' (first 
  | (with_reducible refine Fresh.intro fun b hb=>?_) <;> (try simp -dsimp -implicitDefEqProofs [*] at hb)
  | (with_reducible refine q56 (fun _=>lo _) ?_)
  | (with_reducible refine Panics.xcall (k0x _ _) ?_)
  | (with_reducible refine DrawLate.intro [] ?_)
  | (with_reducible refine q6f ?_ ?_)
  | (with_reducible exact Cls.self _ _)
  | (with_reducible refine q6i ?_ ?_)
  | (simp -dsimp -implicitDefEqProofs [*]))
theorem z9o {ap:List Lk}(hap:LksOK ap){r:PR Note}{m:Nat}{U:List Note}(h:InR r m U)(hm:m<=24)(hq:r.q.length<=3000)(x:Mv Note)(hk:¬ (0<=x.at'/\x.at'<r.q.length))(C:List PV)(cap cb pb:Nat)(st:q5f) :
  Panics P F.q0s [.ptr cb 0,.agg (mvE x)] (mS ap r C cap cb pb st) (.iface T.apiErrno (.int 1)):=by
 have lo:=fun st=>z9j (r.q.map q6d) ap hap.1 (by rw [List.length_map]; omega) (hap.net (by rw [List.length_map]; omega) (h.pk hm)) x.at' (by rw [List.length_map]; exact hk) st
 unfold mS
 generalize r.q.map q6d=Q at *
 clear h hk
 refine H.q0s.panics q5n rfl rfl ?_
 repeat' (first 
  | (with_reducible refine Fresh.intro fun b hb=>?_) <;> (try simp -dsimp -implicitDefEqProofs [*] at hb)
  | (simp -dsimp -implicitDefEqProofs [*]))
 refine DrawFork.intro [] ?_
 repeat' (first 
  | (with_reducible refine q56 (fun _=>lo _) ?_)
  | (simp -dsimp -implicitDefEqProofs [*]))
 refine⟨?_, ?_⟩
 ·repeat' (first 
   | (with_reducible refine Fresh.intro fun b hb=>?_) <;> (try simp -dsimp -implicitDefEqProofs [*] at hb)
   | (with_reducible refine Panics.xcall (k0x _ _) ?_)
   | (with_reducible refine q6f ?_ ?_)
   | (with_reducible exact Cls.self _ _)
   | (with_reducible refine q6i ?_ ?_)
   | (simp -dsimp -implicitDefEqProofs [*]))
 ·repeat' (first 
   | (with_reducible refine Fresh.intro fun b hb=>?_) <;> (try simp -dsimp -implicitDefEqProofs [*] at hb)
   | (with_reducible refine Panics.xcall (k0x _ _) ?_)
   | (with_reducible refine q6f ?_ ?_)
   | (with_reducible exact Cls.self _ _)
   | (with_reducible refine q6i ?_ ?_)
   | (simp -dsimp -implicitDefEqProofs [*]))
def j85 (ap:List Lk)(p:Nat × Nat × Note):Prop:=(⟨min (p.1:Int) p.2.1,max (p.1:Int) p.2.1⟩:Lk) ∈ ap
instance (ap:List Lk) (p:Nat × Nat × Note):Decidable (j85 ap p):=by unfold j85; infer_instance
theorem z9p (q:List Pk)(ap:List Lk)(hap:ap.length<=100000)(hl:q.length<=4096)(hq:q8o q ap)(i:Nat)(hi:i<q.length)(hc:¬ (⟨min q[i].fr q[i].to,max q[i].fr q[i].to⟩:Lk) ∈ ap)(st:q5f):Rets P F.q10 [q9z q ap,.int i] st (.tuple [q[i].pv,q9z (q.eraseIdx i) ap,.int 0]):=by
 have:=k9w q ap hap hl hq i hi st
 rwa [if_neg hc] at this
theorem z60 (q:List Pk)(ap:List Lk)(hap:ap.length<=100000)(hl:q.length<=4096)(hq:q8o q ap)(i:Nat)(hi:i<q.length)(hc:(⟨min q[i].fr q[i].to,max q[i].fr q[i].to⟩:Lk) ∈ ap)(st:q5f):Rets P F.q10 [q9z q ap,.int i] st (.tuple [(⟨0,0,[]⟩:Pk).pv,q9z (q.eraseIdx i) ap,.int 0]):=by
 have:=k9w q ap hap hl hq i hi st
 rwa [if_pos hc] at this
theorem z61 {ap:List Lk}(hap:LksOK ap){r:PR Note}{m:Nat}{U:List Note}(h:InR r m U)(hm:m<=24)(hq:r.q.length<=3000)(x:Mv Note)(k:Nat)(hk:x.at'=k)(hkq:k<r.q.length)(hc:j85 ap r.q[k])(C:List PV)(cap cb pb:Nat)(st:q5f)(hcb:q54 st cb)(hpb:q54 st pb)(hne:¬ cb=pb/\¬ pb=cb) :
  Does P F.q0s [.ptr cb 0,.agg (mvE x)] (mS ap r C cap cb pb st) (.tuple []) (mS ap (r.drop k) C cap cb pb st):=by
 have lo:=fun st=>z60 (r.q.map q6d) ap hap.1 (by rw [List.length_map]; omega) (hap.net (by rw [List.length_map]; omega) (h.pk hm)) k (by rw [List.length_map]; exact hkq) (by rw [List.getElem_map]; exact hc) st
 rw [<-k1p] at lo
 unfold mS PR.drop
 simp only
 clear h hc
 generalize (r.q.eraseIdx k).map q6d=Q2 at *
 generalize r.q.map q6d=Q at *
 refine H.q0s.view q5n rfl rfl ?_
 repeat' (first 
  | (with_reducible refine Fresh.intro fun b hb=>?_) <;> (try simp -dsimp -implicitDefEqProofs [*] at hb)
  | (simp -dsimp -implicitDefEqProofs [*]))
 refine DrawFork.intro [] ?_
 repeat' (first 
  | (with_reducible refine q56 (fun _=>lo _) ?_)
  | (simp -dsimp -implicitDefEqProofs [*]))
 refine⟨?_, ?_⟩
 ·repeat' (first 
   | (with_reducible refine Fresh.intro fun b hb=>?_) <;> (try simp -dsimp -implicitDefEqProofs [*] at hb)
   | (with_reducible refine Rets.xcall (q82 _ _) ?_)
   | (with_reducible refine q6f ?_ ?_)
   | (with_reducible exact Cls.self _ _)
   | (with_reducible refine q6i ?_ ?_)
   | (simp -dsimp -implicitDefEqProofs [*]))
  exact RetView.drop (st':=(cb,k8e ap pb r.peers.length cap Q2)::(pb,k63 r.peers C)::st) q5o ⟨rfl,rfl⟩
 ·repeat' (first 
   | (with_reducible refine Fresh.intro fun b hb=>?_) <;> (try simp -dsimp -implicitDefEqProofs [*] at hb)
   | (with_reducible refine Rets.xcall (q82 _ _) ?_)
   | (with_reducible refine q6f ?_ ?_)
   | (with_reducible exact Cls.self _ _)
   | (with_reducible refine q6i ?_ ?_)
   | (simp -dsimp -implicitDefEqProofs [*]))
  exact RetView.drop (st':=(cb,k8e ap pb r.peers.length cap Q2)::(pb,k63 r.peers C)::st) q5o ⟨rfl,rfl⟩
theorem z9q {ap:List Lk}(hap:LksOK ap){r:PR Note}{m:Nat}{U:List Note}(h:InR r m U)(hm:m<=24)(hU:U.length<=1000)(hq:r.q.length<=3000)(x:Mv Note)(k:Nat)(hk:x.at'=k)(hkq:k<r.q.length)(hnc:¬ j85 ap r.q[k])(C:List PV)(cap cb pb:Nat)(hcap:m<=cap/\cap<=9223372036854775807)(st:q5f)(hcb:q54 st cb)(hpb:q54 st pb)(hne:¬ cb=pb/\¬ pb=cb) :
  Does P F.q0s [.ptr cb 0,.agg (mvE x)] (mS ap r C cap cb pb st) (.tuple []) (mS ap (r.deliver q6p k) C cap cb pb st):=by
 have lo:=fun st=>z9p (r.q.map q6d) ap hap.1 (by rw [List.length_map]; omega) (hap.net (by rw [List.length_map]; omega) (h.pk hm)) k (by rw [List.length_map]; exact hkq) (by rw [List.getElem_map]; exact hnc) st
 rw [<-k1p,List.getElem_map] at lo
 have hlen:=h.len
 have hx:=h.q _ (List.getElem_mem hkq)
 have e:r.deliver q6p k=(r.drop k).learn q6p r.q[k].2.1 r.q[k].2.2:=by
  unfold PR.deliver
  rw [List.getElem?_eq_getElem hkq]
  have:v1x r.ap r.q[k].1 r.q[k].2.1=false:=by rw [h.ap]; rfl
  simp only [this,Bool.false_eq_true,if_false]
 generalize r.q[k]=p at *
 obtain⟨a,t,n⟩:=p
 simp only at hx e
 obtain⟨x1,x2,x3,x4, -⟩:=hx
 have htl:t<r.peers.length:=by omega
 have hp:=h.peer (List.getElem_mem htl)
 rw [e]
 have e2:((r.drop k).learn q6p t n).peers=r.peers.set t (k78 q6p r.peers[t] n):=by
  show r.peers.set t (k78 q6p (r.know t) n)=_
  unfold PR.know
  rw [List.getD_eq_getElem?_getD,List.getElem?_eq_getElem htl]
  rfl
 have e3:((r.drop k).learn q6p t n).q=r.q.eraseIdx k:=rfl
 have lm:=z18 ap r.peers C ((r.q.eraseIdx k).map q6d) t cap htl (by omega) (by omega) hp.1 (by omega) n x4 cb pb st hcb hpb hne
 have rd:=fun st=>j2t n x4 st
 unfold mS
 rw [e2,e3,List.length_set]
 clear e e2 e3 h hp
 have hat:¬ (a:Int)=t:=by omega
 generalize r.peers.set t (k78 q6p r.peers[t] n)=P2 at *
 generalize (r.q.eraseIdx k).map q6d=Q2 at *
 generalize r.q.map q6d=Q at *
 refine H.q0s.view q5n rfl rfl ?_
 subst hlen
 repeat' (first 
  | (with_reducible refine Fresh.intro fun b hb=>?_) <;> (try simp -dsimp -implicitDefEqProofs [*] at hb)
  | (simp -dsimp -implicitDefEqProofs [*]))
 refine DrawFork.intro [] ?_
 repeat' (first 
  | (with_reducible refine q56 (fun _=>lo _) ?_)
  | (simp -dsimp -implicitDefEqProofs [q6d, *]))
 refine⟨?_, ?_⟩
 ·repeat' (first 
   | (with_reducible refine Fresh.intro fun b hb=>?_) <;> (try simp -dsimp -implicitDefEqProofs [*] at hb)
   | (with_reducible refine Rets.xcall (q82 _ _) ?_)
   | (with_reducible refine Rets.xcall (rd _) ?_)
   | (with_reducible refine q6f ?_ ?_)
   | (with_reducible exact Cls.self _ _)
   | (with_reducible refine q6i ?_ ?_)
   | (simp -dsimp -implicitDefEqProofs [q6d, *]))
  refine Does.xcall (Does.le lm q5o) ?_
  repeat' (simp -dsimp -implicitDefEqProofs [*])
  exact .same ⟨rfl,rfl⟩
 ·repeat' (first 
   | (with_reducible refine Fresh.intro fun b hb=>?_) <;> (try simp -dsimp -implicitDefEqProofs [*] at hb)
   | (with_reducible refine Rets.xcall (q82 _ _) ?_)
   | (with_reducible refine Rets.xcall (rd _) ?_)
   | (with_reducible refine q6f ?_ ?_)
   | (with_reducible exact Cls.self _ _)
   | (with_reducible refine q6i ?_ ?_)
   | (simp -dsimp -implicitDefEqProofs [q6d, *]))
  refine Does.xcall (Does.le lm q5o) ?_
  repeat' (simp -dsimp -implicitDefEqProofs [*])
  exact .same ⟨rfl,rfl⟩
end Go.Proofs.YtmlmoaimjifpgaaGreat
