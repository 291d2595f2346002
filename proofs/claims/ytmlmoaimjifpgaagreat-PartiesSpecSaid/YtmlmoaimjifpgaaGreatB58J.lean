/- The reference: telling, syncing. -/
import Derived.Test.YtmlmoaimjifpgaaGreatB58K
import Derived.Test.YtmlmoaimjifpgaaGreatP58C
namespace Go.Proofs.YtmlmoaimjifpgaaGreat
open Go.Pv Go.Pv.Cd
set_option maxRecDepth 100000
set_option maxHeartbeats 8000000
def k3h (j:Nat)(n:Note)(i:Nat):List (Nat × Nat × Note):=((List.range i).filter fun k=>decide (k ≠ j)).map fun k=>(j,k,n)
theorem z2b (j:Nat)(n:Note)(i:Nat):k3h j n (i+1)=k3h j n i++if i=j then [] else [(j,i,n)]:=by
 unfold k3h
 rw [List.range_succ,List.filter_append,List.map_append]
 congr 1
 by_cases h:i=j <;> simp [h]
theorem j6o (j:Nat)(n:Note)(i:Nat):(k3h j n i).length<=i:=by
 unfold k3h
 rw [List.length_map]
 exact Nat.le_trans (List.length_filter_le ..) (by rw [List.length_range]; exact Nat.le_refl _)
theorem j9k {r:PR Note}{m:Nat}{U:List Note}(h:InR r m U){j:Nat}(hj:j<m){n:Note}(hn:q5q n=true){i:Nat}(hi:i<=m):InR ((r.learn q6p j n).send (k3h j n i)) m (n::U):=
 ((h.mono (T':=n::U) fun y hy=>List.mem_cons_of_mem _ hy).learn cmpN_ord hn (List.mem_cons_self ..)).send fun p hp=>by
  unfold k3h at hp
  obtain⟨k,hk,rfl⟩:=List.mem_map.1 hp
  rw [List.mem_filter,List.mem_range,decide_eq_true_eq] at hk
  exact⟨hj,by show k<m; omega,fun e=>hk.2 e.symm,hn,List.mem_cons_self ..⟩
theorem j25 {ap:List Lk}(hap:LksOK ap){r:PR Note}{m:Nat}{U:List Note}(h:InR r m U)(hm:m<=24)(hU:U.length<=900)(hq:r.q.length<=2000)(x:Mv Note)(j:Nat)(hj:x.peer=j)(hjm:j<m)(hn:q5q x.note=true)(st:q5f) :
  Rets P F.q12 [.agg (q59 ap r),.agg (mvE x)] st (.tuple [.agg (q59 ap ((r.learn q6p j x.note).send (r.toAll j x.note))),.int 0]):=by
 have hlen:=h.len
 have pa:=fun st=>q78 r.peers (Pk.lst false (r.q.map q6d)) (Lk.lst false ap) j true ⟨fun _=>by omega,fun _=>rfl⟩ st
 have fs:=fun st=>k0z x.note st
 rw [hn] at fs
 have lm:=fun st=>k6i ap h hm (by omega) j hjm x.note hn st
 have h0:(r.learn q6p j x.note).q.length=r.q.length:=rfl
 have sd0:=fun i (hi:i<m) (hij:j ≠ i)=>fun st=>k6j hap (j9k h hjm hn (Nat.le_of_lt hi)) hm (by show (r.q++k3h j x.note i).length<=3000; have:=j6o j x.note i; rw [List.length_append]; omega) j i x.note hn ⟨hjm,hi,hij⟩ st
 have e0:r.toAll j x.note=k3h j x.note m:=by unfold PR.toAll k3h; rw [hlen]
 rw [e0]
 clear h e0 h0
 have hl2:(r.learn q6p j x.note).peers.length=m:=by show (r.peers.set _ _).length=m; rw [List.length_set,hlen]
 generalize r.learn q6p j x.note=r1 at *
 obtain⟨Qn,hQn⟩:∃ f:Nat->List Pk,f=fun i=>(r1.q++k3h j x.note i).map q6d:=⟨_,rfl⟩
 have eq0:r1.q.map q6d=Qn 0:=by rw [hQn]; show _=(r1.q++[]).map q6d; rw [List.append_nil]
 have eqj:Qn (j+1)=Qn j:=by rw [hQn]; simp only; rw [z2b,if_pos rfl,List.append_nil]
 have eqm:(r1.send (k3h j x.note m)).q.map q6d=Qn m:=by rw [hQn]; rfl
 have sd:Hid (∀ i,i<m->j ≠ i->∀ st,Rets P F.q2f [.agg (q6j r1.peers (Qn i) ap),.int j,.int i,x.note.pv] st (.tuple [.agg (q6j r1.peers (Qn (i+1)) ap),.int 0])):=⟨fun i hi hij st=>by
  have:=sd0 i hi hij st
  have e:((r1.send (k3h j x.note i)).send [(j,i,x.note)]).q.map q6d=Qn (i+1):=by
   rw [hQn]
   show ((r1.q++k3h j x.note i)++[(j,i,x.note)]).map q6d=(r1.q++k3h j x.note (i+1)).map q6d
   rw [z2b,if_neg (fun e=>hij e.symm),List.append_assoc]
  have e2:(r1.send (k3h j x.note i)).q.map q6d=Qn i:=by rw [hQn]; rfl
  unfold q59 at this
  rw [e,e2] at this
  exact this⟩
 have ep:(r1.send (k3h j x.note m)).peers=r1.peers:=rfl
 unfold q59 q6j at *
 rw [eqm,ep]
 rw [eq0] at lm
 clear sd0 hQn eq0 eqm ep
 replace eqj:=Hid.mk eqj
 generalize r.q.map q6d=Q at *
 generalize r.peers=peers at *
 generalize r1.peers=P1 at *
 subst hlen
 refine H.q12.view q5n rfl rfl ?_
 repeat' (first 
  | (with_reducible refine Fresh.intro fun b hb=>?_) <;> (try simp -dsimp -implicitDefEqProofs [*] at hb)
  | (with_reducible refine Rets.xcall (pa _) ?_)
  | (with_reducible refine Rets.xcall (fs _) ?_)
  | (with_reducible refine Rets.xcall (lm _) ?_)
  | (simp -dsimp -implicitDefEqProofs [*]))
 rename_i rb hrb mb hmb eb heb
 clear pa fs lm
 refine q5h (fun i:Nat=>[(2,.ptr rb 0),(3,.ptr mb 0),(4,.ptr eb 0),(6,.ptr b 0),(7,.int 0),(8,.int i)]) (fun i=>(b,.arr T.apiRoom [.list false (prR P1) peers.length,Pk.lst false (Qn i),Lk.lst false ap])::(eb,.arr T.apiRoom [.nil,.nil,.nil])::(mb,.arr T.apiMove (mvE x))::(rb,.arr T.apiRoom [.list false (prR peers) peers.length,Pk.lst false Q,Lk.lst false ap])::st)
  (fun i=>i<=peers.length) (fun i=>peers.length-i) 0 (Nat.zero_le _) (by simp) (.refl _) ?_
 intro i hi
 by_cases hil:i<peers.length
 case neg=>
  obtain rfl:i=peers.length:=by omega
  clear sd eqj
  repeat' (simp -dsimp -implicitDefEqProofs [*])
  exact .drop (st':=st) q5o ⟨rfl,rfl⟩
 have hwi:=q5i (n:=i) (by omega)
 by_cases hij:i=j
 ·subst hij
  have e:=eqj.out
  clear sd eqj
  repeat' (simp -dsimp -implicitDefEqProofs [*])
  exact Next.intro (i+1) (by omega) (by omega) (by simp) (by rw [e]; exact .refl _)
 ·have hij2:¬ (i:Int)=j:=by omega
  have s1:=sd.out i hil (fun e=>hij e.symm)
  rw [hl2] at s1
  clear sd eqj
  repeat' (first 
   | (with_reducible refine Rets.xcall (s1 _) ?_)
   | (simp -dsimp -implicitDefEqProofs [*]))
  exact Next.intro (i+1) (by omega) (by omega) (by simp) (.refl _)
theorem z90 (ap:List Lk)(r:PR Note)(x:Mv Note)(hp:¬ (0<=x.peer/\x.peer<r.peers.length))(st:q5f):Rets P F.q12 [.agg (q59 ap r),.agg (mvE x)] st (.tuple [.agg q7l,.int 1]):=by
 have pa:=fun st=>q78 r.peers (Pk.lst false (r.q.map q6d)) (Lk.lst false ap) x.peer false ⟨(fun h=>by cases h),fun h=>absurd h hp⟩ st
 unfold q59 q6j
 generalize r.q.map q6d=Q at *
 generalize r.peers=peers at *
 clear hp
 refine H.q12.view q5n rfl rfl ?_
 repeat' (first 
  | (with_reducible refine Fresh.intro fun b hb=>?_) <;> (try simp -dsimp -implicitDefEqProofs [*] at hb)
  | (with_reducible refine Rets.xcall (pa _) ?_)
  | (simp -dsimp -implicitDefEqProofs [*]))
 exact RetView.sees (SeesV.le (q:=.tuple [.agg q7l,.int 1]) (PLeV.tuple2 q6q (.refl _))) (RetView.drop (st':=st) q5o ⟨rfl,rfl⟩)
theorem z91 (ap:List Lk)(r:PR Note)(x:Mv Note)(hp:0<=x.peer/\x.peer<r.peers.length)(hf:q5q x.note=false)(st:q5f):Rets P F.q12 [.agg (q59 ap r),.agg (mvE x)] st (.tuple [.agg q7l,.int 580]):=by
 have pa:=fun st=>q78 r.peers (Pk.lst false (r.q.map q6d)) (Lk.lst false ap) x.peer true ⟨fun _=>hp,fun _=>rfl⟩ st
 have fs:=fun st=>k0z x.note st
 rw [hf] at fs
 unfold q59 q6j
 generalize r.q.map q6d=Q at *
 generalize r.peers=peers at *
 clear hp
 refine H.q12.view q5n rfl rfl ?_
 repeat' (first 
  | (with_reducible refine Fresh.intro fun b hb=>?_) <;> (try simp -dsimp -implicitDefEqProofs [*] at hb)
  | (with_reducible refine Rets.xcall (pa _) ?_)
  | (with_reducible refine Rets.xcall (fs _) ?_)
  | (simp -dsimp -implicitDefEqProofs [*]))
 exact RetView.sees (SeesV.le (q:=.tuple [.agg q7l,.int 580]) (PLeV.tuple2 q6q (.refl _))) (RetView.drop (st':=st) q5o ⟨rfl,rfl⟩)
def k3i (a b:Nat)(l:List Note)(i:Nat):List (Nat × Nat × Note):=(l.take i).map fun n=>(a,b,n)
theorem j26 {a b:Nat}{l:List Note}{i:Nat}(h:i<l.length):k3i a b l (i+1)=k3i a b l i++[(a,b,l[i])]:=by
 unfold k3i
 rw [List.take_succ_eq_append_getElem h,List.map_append]
 rfl
theorem j6p (a b:Nat)(l:List Note)(i:Nat):(k3i a b l i).length<=l.length:=by
 unfold k3i
 rw [List.length_map,List.length_take]
 omega
theorem j9l {r:PR Note}{m:Nat}{U:List Note}(h:InR r m U){a b:Nat}(ha:a<m)(hb:b<m)(hab:a ≠ b)(i:Nat):InR (r.send (k3i a b (r.know a) i)) m U:=
 h.send fun p hp=>by
  refine h.alls ha hb hab p ?_
  unfold k3i at hp
  unfold PR.all
  obtain⟨x,hx,rfl⟩:=List.mem_map.1 hp
  exact List.mem_map.2 ⟨x,List.mem_of_mem_take hx,rfl⟩
theorem j27 {ap:List Lk}(hap:LksOK ap){r:PR Note}{m:Nat}{U:List Note}(h:InR r m U)(hm:m<=24)(hU:U.length<=900)(hq:r.q.length<=2000)(x:Mv Note)(j t:Nat)(hj:x.peer=j)(ht:x.to=t)(hjm:j<m)(htm:t<m)(hjt:j ≠ t)(st:q5f) :
  Rets P F.q2u [.agg (q59 ap r),.agg (mvE x)] st (.tuple [.agg (q59 ap (r.send (r.all j t))),.int 0]):=by
 have hlen:=h.len
 have hjl:j<r.peers.length:=by omega
 have p1:=fun st=>q78 r.peers (Pk.lst false (r.q.map q6d)) (Lk.lst false ap) j true ⟨fun _=>by omega,fun _=>rfl⟩ st
 have p2:=fun st=>q78 r.peers (Pk.lst false (r.q.map q6d)) (Lk.lst false ap) t true ⟨fun _=>by omega,fun _=>rfl⟩ st
 have hk:=h.peer (k79 hjl)
 have g1:(prR r.peers)[j]?=some (Note.lst false (r.know j)):=by
  rw [k3f hjl]
  unfold PR.know
  rw [List.getD_eq_getElem?_getD,List.getElem?_eq_getElem hjl]
  rfl
 have G1:=q6v g1
 have sd0:=fun i (hi:i<(r.know j).length)=>fun st=>k6j hap (j9l h hjm htm hjt i) hm (by show (r.q++k3i j t (r.know j) i).length<=3000; have:=j6p j t (r.know j) i; rw [List.length_append]; omega) j t (r.know j)[i] (hk.1.1 _ (List.getElem_mem hi)) ⟨hjm,htm,hjt⟩ st
 have e0:r.all j t=k3i j t (r.know j) (r.know j).length:=by unfold PR.all k3i; rw [List.take_length]
 rw [e0]
 have hL:(r.know j).length<=900:=by omega
 clear h e0 hk
 generalize r.know j=L at *
 obtain⟨Qn,hQn⟩:∃ f:Nat->List Pk,f=fun i=>(r.q++k3i j t L i).map q6d:=⟨_,rfl⟩
 have eq0:r.q.map q6d=Qn 0:=by rw [hQn]; show _=(r.q++[]).map q6d; rw [List.append_nil]
 have eqm:(r.send (k3i j t L L.length)).q.map q6d=Qn L.length:=by rw [hQn]; rfl
 have sd:Hid (∀ i (hi:i<L.length),∀ st,Rets P F.q2f [.agg (q6j r.peers (Qn i) ap),.int j,.int t,L[i].pv] st (.tuple [.agg (q6j r.peers (Qn (i+1)) ap),.int 0])):=⟨fun i hi st=>by
  have:=sd0 i hi st
  have e:((r.send (k3i j t L i)).send [(j,t,L[i])]).q.map q6d=Qn (i+1):=by
   rw [hQn]
   show ((r.q++k3i j t L i)++[(j,t,L[i])]).map q6d=(r.q++k3i j t L (i+1)).map q6d
   rw [j26 hi,List.append_assoc]
  have e2:(r.send (k3i j t L i)).q.map q6d=Qn i:=by rw [hQn]; rfl
  unfold q59 at this
  rw [e,e2] at this
  exact this⟩
 have ep:(r.send (k3i j t L L.length)).peers=r.peers:=rfl
 unfold q59 q6j at *
 rw [eqm,ep]
 rw [eq0] at p1 p2 ⊢
 clear sd0 hQn eq0 eqm ep
 have hpl:=q71 r.peers
 generalize r.peers=peers at *
 subst hlen
 have hjt2:¬ (j:Int)=t:=by omega
 have hrl:=Note.row_len L
 refine H.q2u.view q5n rfl rfl ?_
 repeat' (first 
  | (with_reducible refine Fresh.intro fun b hb=>?_) <;> (try simp -dsimp -implicitDefEqProofs [*] at hb)
  | (with_reducible refine Rets.xcall (p1 _) ?_)
  | (with_reducible refine Rets.xcall (p2 _) ?_)
  | (simp -dsimp -implicitDefEqProofs [*]))
 rename_i rb hrb mb hmb eb heb
 clear p1 p2 g1 G1
 refine q5h (fun i:Nat=>[(2,.ptr rb 0),(3,.ptr mb 0),(4,.ptr eb 0),(6,.ptr b 0),(7,.int 0),(8,Note.lst false L),(9,.int i)]) (fun i=>(b,.arr T.apiRoom [.list false (prR peers) peers.length,Pk.lst false (Qn i),Lk.lst false ap])::(eb,.arr T.apiRoom [.nil,.nil,.nil])::(mb,.arr T.apiMove (mvE x))::(rb,.arr T.apiRoom [.list false (prR peers) peers.length,Pk.lst false (Qn 0),Lk.lst false ap])::st)
  (fun i=>i<=L.length) (fun i=>L.length-i) 0 (Nat.zero_le _) (by simp) (.refl _) ?_
 intro i hi
 by_cases hil:i<L.length
 case neg=>
  obtain rfl:i=L.length:=by omega
  clear sd
  repeat' (simp -dsimp -implicitDefEqProofs [*])
  exact .drop (st':=st) q5o ⟨rfl,rfl⟩
 have hwi:=q5i (n:=i) (by omega)
 have hsub:=Note.row_sub L i hil
 have s1:=sd.out i hil
 clear sd
 generalize L[i]=n at *
 repeat' (first 
  | (with_reducible refine Rets.xcall (s1 _) ?_)
  | (with_reducible refine DrawLate.intro [] ?_)
  | (simp -dsimp -implicitDefEqProofs [*]))
 exact Next.intro (i+1) (by omega) (by omega) (by simp) (.refl _)
theorem j28 (ap:List Lk)(r:PR Note)(x:Mv Note)(hp:¬ ((0<=x.peer/\x.peer<r.peers.length)/\(0<=x.to/\x.to<r.peers.length)/\x.peer ≠ x.to))(st:q5f):Rets P F.q2u [.agg (q59 ap r),.agg (mvE x)] st (.tuple [.agg q7l,.int 1]):=by
 have pa:=fun k b hb st=>q78 r.peers (Pk.lst false (r.q.map q6d)) (Lk.lst false ap) k b hb st
 unfold q59 q6j
 generalize r.q.map q6d=Q at *
 generalize r.peers=peers at *
 refine H.q2u.view q5n rfl rfl ?_
 by_cases h1:0<=x.peer/\x.peer<peers.length
 case neg=>
  have p1:=pa x.peer false ⟨(fun h=>by cases h),fun h=>absurd h h1⟩
  clear hp h1 pa
  repeat' (first 
   | (with_reducible refine Fresh.intro fun b hb=>?_) <;> (try simp -dsimp -implicitDefEqProofs [*] at hb)
   | (with_reducible refine Rets.xcall (p1 _) ?_)
   | (simp -dsimp -implicitDefEqProofs [*]))
  exact RetView.sees (SeesV.le (q:=.tuple [.agg q7l,.int 1]) (PLeV.tuple2 q6q (.refl _))) (RetView.drop (st':=st) q5o ⟨rfl,rfl⟩)
 have p1:=pa x.peer true ⟨fun _=>h1,fun _=>rfl⟩
 by_cases h2:0<=x.to/\x.to<peers.length
 case neg=>
  have p2:=pa x.to false ⟨(fun h=>by cases h),fun h=>absurd h h2⟩
  clear hp h1 h2 pa
  repeat' (first 
   | (with_reducible refine Fresh.intro fun b hb=>?_) <;> (try simp -dsimp -implicitDefEqProofs [*] at hb)
   | (with_reducible refine Rets.xcall (p1 _) ?_)
   | (with_reducible refine Rets.xcall (p2 _) ?_)
   | (simp -dsimp -implicitDefEqProofs [*]))
  exact RetView.sees (SeesV.le (q:=.tuple [.agg q7l,.int 1]) (PLeV.tuple2 q6q (.refl _))) (RetView.drop (st':=st) q5o ⟨rfl,rfl⟩)
 have p2:=pa x.to true ⟨fun _=>h2,fun _=>rfl⟩
 have h3:x.peer=x.to:=Classical.byContradiction fun h=>hp ⟨h1,h2,h⟩
 clear hp h1 h2 pa
 repeat' (first 
  | (with_reducible refine Fresh.intro fun b hb=>?_) <;> (try simp -dsimp -implicitDefEqProofs [*] at hb)
  | (with_reducible refine Rets.xcall (p2 _) ?_)
  | (simp -dsimp -implicitDefEqProofs [*]))
 all_goals exact RetView.sees (SeesV.le (q:=.tuple [.agg q7l,.int 1]) (PLeV.tuple2 q6q (.refl _))) (RetView.drop (st':=st) q5o ⟨rfl,rfl⟩)
open Go.Pv
set_option maxRecDepth 100000
set_option maxHeartbeats 8000000
theorem z4e (q:List Pk)(ap:List Lk)(hap:ap.length<=100000)(hl:q.length<=4096)(hq:q8o q ap)(i:Nat)(hi:i<q.length)(hc:¬ (⟨min q[i].fr q[i].to,max q[i].fr q[i].to⟩:Lk) ∈ ap)(st:q5f):Rets P F.q1q [q9z q ap,.int i] st (.tuple [q[i].pv,q9z (q.eraseIdx i) ap,.int 0]):=by
 have a:=fun st=>k8g q ap hap hl hq i hi st
 have w:=fun st=>k0l q ap hl i hi st
 have cu:=fun st=>z2a q ap hap q[i].fr q[i].to st
 rw [decide_eq_false hc] at cu
 have hs:=Pk.row_sub q i hi
 have hr:=Pk.row_len q
 clear hq hc
 generalize q[i]=p at *
 generalize q.eraseIdx i=q2 at *
 refine H.q1q.view q5n rfl rfl ?_
 repeat' (first 
  | (with_reducible refine Fresh.intro fun b hb=>?_) <;> (try simp -dsimp -implicitDefEqProofs [*] at hb)
  | (with_reducible refine Rets.xcall (a _) ?_)
  | (with_reducible refine Rets.xcall (cu _) ?_)
  | (with_reducible refine Rets.xcall (w _) ?_)
  | (with_reducible refine DrawLate.intro [] ?_)
  | (simp -dsimp -implicitDefEqProofs [*]))
 exact RetView.drop (st':=st) q5o ⟨rfl,rfl⟩
theorem z0t (q:List Pk)(ap:List Lk)(hap:ap.length<=100000)(hl:q.length<=4096)(hq:q8o q ap)(i:Nat)(hi:i<q.length)(hc:(⟨min q[i].fr q[i].to,max q[i].fr q[i].to⟩:Lk) ∈ ap)(st:q5f):Rets P F.q1q [q9z q ap,.int i] st (.tuple [(⟨0,0,[]⟩:Pk).pv,q9z (q.eraseIdx i) ap,.int 0]):=by
 have a:=fun st=>k8g q ap hap hl hq i hi st
 have w:=fun st=>k0l q ap hl i hi st
 have cu:=fun st=>z2a q ap hap q[i].fr q[i].to st
 rw [decide_eq_true hc] at cu
 have hs:=Pk.row_sub q i hi
 have hr:=Pk.row_len q
 clear hq hc
 generalize q[i]=p at *
 generalize q.eraseIdx i=q2 at *
 have hset:((p.enc.set 0 (.int 0)).set 1 (.int 0)).set 2 .nil=[.int 0,.int 0,.nil]:=rfl
 refine H.q1q.view q5n rfl rfl ?_
 repeat' (first 
  | (with_reducible refine Fresh.intro fun b hb=>?_) <;> (try simp -dsimp -implicitDefEqProofs [*] at hb)
  | (with_reducible refine Rets.xcall (a _) ?_)
  | (with_reducible refine Rets.xcall (cu _) ?_)
  | (with_reducible refine Rets.xcall (w _) ?_)
  | (with_reducible refine DrawLate.intro [] ?_)
  | (simp -dsimp -implicitDefEqProofs [*]))
 refine RetView.sees (SeesV.le (q:=.tuple [(⟨0,0,[]⟩:Pk).pv,q9z q2 ap,.int 0]) (PLeV.tuple3 (PLeV.aggs (ps:=[.int 0,.int 0,.nil]) (qs:=[.int 0,.int 0,.list false [] 0]) ⟨.refl _,.refl _,.nil1,trivial⟩) (.refl _) (.refl _))) ?_
 exact RetView.drop (st':=st) q5o ⟨rfl,rfl⟩
theorem z4f (q:List Pk)(ap:List Lk)(hap:ap.length<=100000)(hl:q.length<=4096)(hq:q8o q ap)(i:Int)(hi:¬ (0<=i/\i<q.length))(st:q5f):Rets P F.q1q [q9z q ap,.int i] st (.tuple [(⟨0,0,[]⟩:Pk).pv,z6m [],.int 1]):=by
 have a:=fun st=>z4d q ap hap hl hq i hi st
 clear hq
 refine H.q1q.view q5n rfl rfl ?_
 repeat' (first 
  | (with_reducible refine Fresh.intro fun b hb=>?_) <;> (try simp -dsimp -implicitDefEqProofs [*] at hb)
  | (with_reducible refine Rets.xcall (a _) ?_)
  | (simp -dsimp -implicitDefEqProofs [*]))
 exact RetView.sees (SeesV.le (q:=.tuple [(⟨0,0,[]⟩:Pk).pv,z6m [],.int 1]) (PLeV.tuple3 (PLeV.aggs (ps:=[.int 0,.int 0,.nil]) (qs:=[.int 0,.int 0,.list false [] 0]) ⟨.refl _,.refl _,.nil1,trivial⟩) k0y (.refl _))) (RetView.drop (st':=st) q5o ⟨rfl,rfl⟩)
theorem j29 (q:List Pk)(ap:List Lk)(hap:ap.length<=100000)(hl:q.length<=4096)(hq:q8o q ap)(i:Nat)(hi:i<q.length)(st:q5f):Rets P F.q2d [q9z q ap,.int i] st (.tuple [q9z (q.eraseIdx i) ap,.int 0]):=by
 have a:=fun st=>k8g q ap hap hl hq i hi st
 have w:=fun st=>k0l q ap hl i hi st
 clear hq
 generalize q.eraseIdx i=q2 at *
 refine H.q2d.view q5n rfl rfl ?_
 repeat' (first 
  | (with_reducible refine Fresh.intro fun b hb=>?_) <;> (try simp -dsimp -implicitDefEqProofs [*] at hb)
  | (with_reducible refine Rets.xcall (a _) ?_)
  | (with_reducible refine Rets.xcall (w _) ?_)
  | (simp -dsimp -implicitDefEqProofs [*]))
 exact RetView.drop (st':=st) q5o ⟨rfl,rfl⟩
theorem j3a (q:List Pk)(ap:List Lk)(hap:ap.length<=100000)(hl:q.length<=4096)(hq:q8o q ap)(i:Int)(hi:¬ (0<=i/\i<q.length))(st:q5f):Rets P F.q2d [q9z q ap,.int i] st (.tuple [z6m [],.int 1]):=by
 have a:=fun st=>z4d q ap hap hl hq i hi st
 clear hq
 refine H.q2d.view q5n rfl rfl ?_
 repeat' (first 
  | (with_reducible refine Fresh.intro fun b hb=>?_) <;> (try simp -dsimp -implicitDefEqProofs [*] at hb)
  | (with_reducible refine Rets.xcall (a _) ?_)
  | (simp -dsimp -implicitDefEqProofs [*]))
 exact RetView.sees (SeesV.le (q:=.tuple [z6m [],.int 1]) (PLeV.tuple2 k0y (.refl _))) (RetView.drop (st':=st) q5o ⟨rfl,rfl⟩)
theorem z69 (q:List Pk)(ap:List Lk)(hap:ap.length<=100000)(hl:q.length<4096)(hq:q8o q ap)(i:Nat)(hi:i<q.length)(st:q5f):Rets P F.q1z [q9z q ap,.int i] st (.tuple [q9z (q++[q[i]]) ap,.int 0]):=by
 have a:=fun st=>k8g q ap hap (by omega) hq i hi st
 have w:=fun st=>k7w q ap hap hl hq q[i] (hq.2.1 _ (List.getElem_mem hi)) st
 have hs:=Pk.row_sub q i hi
 have hr:=Pk.row_len q
 clear hq
 generalize q[i]=p at *
 generalize q++[p]=q2 at *
 refine H.q1z.view q5n rfl rfl ?_
 repeat' (first 
  | (with_reducible refine Fresh.intro fun b hb=>?_) <;> (try simp -dsimp -implicitDefEqProofs [*] at hb)
  | (with_reducible refine Rets.xcall (a _) ?_)
  | (with_reducible refine Rets.xcall (w _) ?_)
  | (with_reducible refine DrawLate.intro [] ?_)
  | (simp -dsimp -implicitDefEqProofs [*]))
 exact RetView.drop (st':=st) q5o ⟨rfl,rfl⟩
theorem z7a (q:List Pk)(ap:List Lk)(hap:ap.length<=100000)(hl:q.length<=4096)(hq:q8o q ap)(i:Int)(hi:¬ (0<=i/\i<q.length))(st:q5f):Rets P F.q1z [q9z q ap,.int i] st (.tuple [z6m [],.int 1]):=by
 have a:=fun st=>z4d q ap hap hl hq i hi st
 clear hq
 refine H.q1z.view q5n rfl rfl ?_
 repeat' (first 
  | (with_reducible refine Fresh.intro fun b hb=>?_) <;> (try simp -dsimp -implicitDefEqProofs [*] at hb)
  | (with_reducible refine Rets.xcall (a _) ?_)
  | (simp -dsimp -implicitDefEqProofs [*]))
 exact RetView.sees (SeesV.le (q:=.tuple [z6m [],.int 1]) (PLeV.tuple2 k0y (.refl _))) (RetView.drop (st':=st) q5o ⟨rfl,rfl⟩)
open Go.Pv Go.Pv.Cd
set_option maxRecDepth 100000
set_option maxHeartbeats 8000000
theorem z0u {ap:List Lk}(hap:LksOK ap){r:PR Note}{m:Nat}{U:List Note}(h:InR r m U)(hm:m<=24)(hq:r.q.length<=3000)(x:Mv Note)(hk:¬ (0<=x.at'/\x.at'<r.q.length))(st:q5f):Rets P F.q1h [.agg (q59 ap r),.agg (mvE x)] st (.tuple [.agg q7l,.int 1]):=by
 have lo:=fun st=>z4f (r.q.map q6d) ap hap.1 (by rw [List.length_map]; omega) (hap.net (by rw [List.length_map]; omega) (h.pk hm)) x.at' (by rw [List.length_map]; exact hk) st
 unfold q59 q6j
 generalize r.q.map q6d=Q at *
 generalize r.peers=peers at *
 clear h hk
 refine H.q1h.view q5n rfl rfl ?_
 repeat' (first 
  | (with_reducible refine Fresh.intro fun b hb=>?_) <;> (try simp -dsimp -implicitDefEqProofs [*] at hb)
  | (with_reducible refine Rets.xcall (lo _) ?_)
  | (simp -dsimp -implicitDefEqProofs [*]))
 exact RetView.sees (SeesV.le (q:=.tuple [.agg q7l,.int 1]) (PLeV.tuple2 q6q (.refl _))) (RetView.drop (st':=st) q5o ⟨rfl,rfl⟩)
theorem k92 {ap:List Lk}(hap:LksOK ap){r:PR Note}{m:Nat}{U:List Note}(h:InR r m U)(hm:m<=24)(hq:r.q.length<=3000)(x:Mv Note)(k:Nat)(hk:x.at'=k)(hkq:k<r.q.length)(hc:j85 ap r.q[k])(st:q5f):Rets P F.q1h [.agg (q59 ap r),.agg (mvE x)] st (.tuple [.agg (q59 ap (r.drop k)),.int 0]):=by
 have lo:=fun st=>z0t (r.q.map q6d) ap hap.1 (by rw [List.length_map]; omega) (hap.net (by rw [List.length_map]; omega) (h.pk hm)) k (by rw [List.length_map]; exact hkq) (by rw [List.getElem_map]; exact hc) st
 rw [<-k1p] at lo
 unfold q59 q6j PR.drop
 simp only
 clear h hc
 generalize (r.q.eraseIdx k).map q6d=Q2 at *
 generalize r.q.map q6d=Q at *
 generalize r.peers=peers at *
 refine H.q1h.view q5n rfl rfl ?_
 repeat' (first 
  | (with_reducible refine Fresh.intro fun b hb=>?_) <;> (try simp -dsimp -implicitDefEqProofs [*] at hb)
  | (with_reducible refine Rets.xcall (lo _) ?_)
  | (simp -dsimp -implicitDefEqProofs [*]))
 exact RetView.drop (st':=st) q5o ⟨rfl,rfl⟩
theorem j9m (n:Note)(hn:q5q n=true)(st:q5f):Rets P F.q1r [q53 false (msg n)] st (.tuple [n.pv,.bool true]):=
 PCalls.mono (k7t (msg n) (k04 hn) st) fun e s ⟨m,ok,h1,h2,h3⟩=>by
  rw [k3x hn] at h3
  obtain⟨rfl,rfl⟩:=h3
  exact⟨h1,h2⟩
theorem z0v {ap:List Lk}(hap:LksOK ap){r:PR Note}{m:Nat}{U:List Note}(h:InR r m U)(hm:m<=24)(hU:U.length<=900)(hq:r.q.length<=3000)(x:Mv Note)(k:Nat)(hk:x.at'=k)(hkq:k<r.q.length)(hc:¬ j85 ap r.q[k])(st:q5f):Rets P F.q1h [.agg (q59 ap r),.agg (mvE x)] st (.tuple [.agg (q59 ap (r.deliver q6p k)),.int 0]):=by
 have lo:=fun st=>z4e (r.q.map q6d) ap hap.1 (by rw [List.length_map]; omega) (hap.net (by rw [List.length_map]; omega) (h.pk hm)) k (by rw [List.length_map]; exact hkq) (by rw [List.getElem_map]; exact hc) st
 rw [<-k1p,List.getElem_map] at lo
 have hx:=h.q _ (List.getElem_mem hkq)
 have e:r.deliver q6p k=(r.drop k).learn q6p r.q[k].2.1 r.q[k].2.2:=by
  unfold PR.deliver
  rw [List.getElem?_eq_getElem hkq]
  have:v1x r.ap r.q[k].1 r.q[k].2.1=false:=by rw [h.ap]; rfl
  simp only [this,Bool.false_eq_true,if_false]
 have ln:=fun st=>k6i ap (h.drop k) hm (by omega) r.q[k].2.1 hx.2.1 r.q[k].2.2 hx.2.2.2.1 st
 rw [e]
 have rd:=fun st=>j9m r.q[k].2.2 hx.2.2.2.1 st
 generalize r.q[k]=p at *
 obtain⟨a,t,n⟩:=p
 simp only at hx ln rd ⊢
 have hat:¬ (a:Int)=t:=by omega
 clear hx e hc h
 have e1:(r.drop k).peers=r.peers:=rfl
 have e2:(r.drop k).q=r.q.eraseIdx k:=rfl
 generalize (r.drop k).learn q6p t n=r2 at *
 unfold q59 q6j at *
 rw [e1,e2] at ln
 clear e1 e2
 generalize (r.q.eraseIdx k).map q6d=Q2 at *
 generalize r.q.map q6d=Q at *
 generalize r.peers=peers at *
 generalize r2.peers=peers2 at *
 generalize r2.q.map q6d=Q3 at *
 have hpk:(q6d (a,t,n)).pv=.agg [.int a,.int t,q53 false (msg n)]:=rfl
 rw [hpk] at lo
 refine H.q1h.view q5n rfl rfl ?_
 repeat' (first 
  | (with_reducible refine Fresh.intro fun b hb=>?_) <;> (try simp -dsimp -implicitDefEqProofs [*] at hb)
  | (with_reducible refine Rets.xcall (lo _) ?_)
  | (with_reducible refine Rets.xcall (rd _) ?_)
  | (with_reducible refine Rets.xcall (ln _) ?_)
  | (simp -dsimp -implicitDefEqProofs [*]))
 exact RetView.drop (st':=st) q5o ⟨rfl,rfl⟩
theorem j3b (peers:List (List Note))(Q:List Pk)(ap:List Lk)(m:Mv Note)(hc:∀ st,Rets P F.q1w [.agg (q6j peers Q ap)] st (.int 580))(st:q5f):Rets P F.q0o [.agg (q6j peers Q ap),.agg (mvE m)] st (.tuple [.agg q7l,.int 580]):=by
 unfold q6j at *
 refine H.q0o.view q5n rfl rfl ?_
 repeat' (first 
  | (with_reducible refine Fresh.intro fun b hb=>?_) <;> (try simp -dsimp -implicitDefEqProofs [*] at hb)
  | (with_reducible refine Rets.xcall (hc _) ?_)
  | (simp -dsimp -implicitDefEqProofs [*]))
 exact RetView.sees (SeesV.le (q:=.tuple [.agg q7l,.int 580]) (PLeV.tuple2 q6q (.refl _))) (RetView.drop (st':=st) q5o ⟨rfl,rfl⟩)
theorem j3c {ap:List Lk}(hap:LksOK ap){r:PR Note}{n:Nat}{U:List Note}(h:InR r n U)(hn:1<=n/\n<=24)(hU:U.length<=900)(hq:r.q.length<=2000)(m:Mv Note)(st:q5f) :
  Rets P F.q0o [.agg (q59 ap r),.agg (mvE m)] st (.tuple [.agg (j20 ap r m),.int (j21 ap r m)]):=by
 have hlen:=h.len
 have c:=fun st=>k6h hap h hn (by omega) (by omega) st
 unfold j20 j21 j86
 by_cases k3:m.kind=3
 ·rw [if_pos k3]
  by_cases hp:0<=m.at'/\m.at'<r.q.length
  ·rw [if_pos hp]
   have hkq:m.at'.toNat<r.q.length:=by omega
   have hg:=List.getElem?_eq_getElem hkq
   have key:∀ st,Rets P F.q1h [.agg (q59 ap r),.agg (mvE m)] st (.tuple [.agg (q59 ap (j1e ap r m.at'.toNat)),.int 0]):=fun st=>by
    by_cases hc:j85 ap r.q[m.at'.toNat]
    ·have e:j1e ap r m.at'.toNat=r.drop m.at'.toNat:=by unfold j1e; rw [hg]; exact if_pos hc
     rw [e]
     exact k92 hap h hn.2 (by omega) m m.at'.toNat (by omega) hkq hc st
    ·have e:j1e ap r m.at'.toNat=r.deliver q6p m.at'.toNat:=by unfold j1e; rw [hg]; exact if_neg hc
     rw [e]
     exact z0v hap h hn.2 hU (by omega) m m.at'.toNat (by omega) hkq hc st
   generalize j1e ap r m.at'.toNat=r2 at *
   unfold q59 q6j at *
   clear h hU hg hkq hp hq hlen
   refine H.q0o.view q5n rfl rfl ?_
   repeat' (first 
    | (with_reducible refine Fresh.intro fun b hb=>?_) <;> (try simp -dsimp -implicitDefEqProofs [*] at hb)
    | (with_reducible refine Rets.xcall (c _) ?_)
    | (with_reducible refine Rets.xcall (key _) ?_)
    | (simp -dsimp -implicitDefEqProofs [*]))
   exact RetView.drop (st':=st) q5o ⟨rfl,rfl⟩
  ·rw [if_neg hp]
   have key:=fun st=>z0u hap h hn.2 (by omega) m hp st
   unfold q59 q6j q7l at *
   clear h hU hp hq hlen
   refine H.q0o.view q5n rfl rfl ?_
   repeat' (first 
    | (with_reducible refine Fresh.intro fun b hb=>?_) <;> (try simp -dsimp -implicitDefEqProofs [*] at hb)
    | (with_reducible refine Rets.xcall (c _) ?_)
    | (with_reducible refine Rets.xcall (key _) ?_)
    | (simp -dsimp -implicitDefEqProofs [*]))
   exact RetView.drop (st':=st) q5o ⟨rfl,rfl⟩
 rw [if_neg k3]
 unfold PR.act
 by_cases k1:m.kind=1
 ·rw [if_pos k1]
  by_cases hp:0<=m.peer/\m.peer<r.peers.length
  ·rw [if_pos hp]
   by_cases hf:q5q m.note=true
   ·rw [if_pos hf]
    have key:=fun st=>j25 hap h hn.2 hU hq m m.peer.toNat (by omega) (by omega) hf st
    clear hp hf
    generalize (r.learn q6p m.peer.toNat m.note).send (r.toAll m.peer.toNat m.note)=r2 at *
    unfold q59 q6j at *
    clear h hU hq hlen
    refine H.q0o.view q5n rfl rfl ?_
    repeat' (first 
     | (with_reducible refine Fresh.intro fun b hb=>?_) <;> (try simp -dsimp -implicitDefEqProofs [*] at hb)
     | (with_reducible refine Rets.xcall (c _) ?_)
     | (with_reducible refine Rets.xcall (key _) ?_)
     | (simp -dsimp -implicitDefEqProofs [*]))
    exact RetView.drop (st':=st) q5o ⟨rfl,rfl⟩
   ·rw [if_neg hf]
    have key:=fun st=>z91 ap r m hp (by simpa using hf) st
    clear hp hf
    unfold q59 q6j q7l at *
    clear h hU hq hlen
    refine H.q0o.view q5n rfl rfl ?_
    repeat' (first 
     | (with_reducible refine Fresh.intro fun b hb=>?_) <;> (try simp -dsimp -implicitDefEqProofs [*] at hb)
     | (with_reducible refine Rets.xcall (c _) ?_)
     | (with_reducible refine Rets.xcall (key _) ?_)
     | (simp -dsimp -implicitDefEqProofs [*]))
    exact RetView.drop (st':=st) q5o ⟨rfl,rfl⟩
  ·rw [if_neg hp]
   have key:=fun st=>z90 ap r m hp st
   clear hp
   unfold q59 q6j q7l at *
   clear h hU hq hlen
   refine H.q0o.view q5n rfl rfl ?_
   repeat' (first 
    | (with_reducible refine Fresh.intro fun b hb=>?_) <;> (try simp -dsimp -implicitDefEqProofs [*] at hb)
    | (with_reducible refine Rets.xcall (c _) ?_)
    | (with_reducible refine Rets.xcall (key _) ?_)
    | (simp -dsimp -implicitDefEqProofs [*]))
   exact RetView.drop (st':=st) q5o ⟨rfl,rfl⟩
 rw [if_neg k1]
 by_cases k2:m.kind=2
 ·rw [if_pos k2]
  by_cases hp:(0<=m.peer/\m.peer<r.peers.length)/\(0<=m.to/\m.to<r.peers.length)/\m.peer ≠ m.to
  ·rw [if_pos hp]
   have key:=fun st=>j27 hap h hn.2 hU hq m m.peer.toNat m.to.toNat (by omega) (by omega) (by omega) (by omega) (by omega) st
   clear hp
   generalize r.send (r.all m.peer.toNat m.to.toNat)=r2 at *
   unfold q59 q6j at *
   clear h hU hq hlen
   refine H.q0o.view q5n rfl rfl ?_
   repeat' (first 
    | (with_reducible refine Fresh.intro fun b hb=>?_) <;> (try simp -dsimp -implicitDefEqProofs [*] at hb)
    | (with_reducible refine Rets.xcall (c _) ?_)
    | (with_reducible refine Rets.xcall (key _) ?_)
    | (simp -dsimp -implicitDefEqProofs [*]))
   exact RetView.drop (st':=st) q5o ⟨rfl,rfl⟩
  ·rw [if_neg hp]
   have key:=fun st=>j28 ap r m hp st
   clear hp
   unfold q59 q6j q7l at *
   clear h hU hq hlen
   refine H.q0o.view q5n rfl rfl ?_
   repeat' (first 
    | (with_reducible refine Fresh.intro fun b hb=>?_) <;> (try simp -dsimp -implicitDefEqProofs [*] at hb)
    | (with_reducible refine Rets.xcall (c _) ?_)
    | (with_reducible refine Rets.xcall (key _) ?_)
    | (simp -dsimp -implicitDefEqProofs [*]))
   exact RetView.drop (st':=st) q5o ⟨rfl,rfl⟩
 rw [if_neg k2,if_neg k3]
 by_cases k4:m.kind=4
 ·rw [if_pos k4]
  by_cases hp:0<=m.at'/\m.at'<r.q.length
  ·rw [if_pos hp]
   have hkq:m.at'.toNat<r.q.length:=by omega
   have key:∀ st,Rets P F.q2d [q9z (r.q.map q6d) ap,.int m.at'] st (.tuple [q9z ((r.drop m.at'.toNat).q.map q6d) ap,.int 0]):=fun st=>by
    have:=j29 (r.q.map q6d) ap hap.1 (by rw [List.length_map]; omega) (hap.net (by rw [List.length_map]; omega) (h.pk hn.2)) m.at'.toNat (by rw [List.length_map]; exact hkq) st
    rw [<-k1p] at this
    rw [show ((m.at'.toNat:Nat):Int)=m.at' by omega] at this
    exact this
   have ep:(r.drop m.at'.toNat).peers=r.peers:=rfl
   show Rets P F.q0o [.agg (q59 ap r),.agg (mvE m)] st (.tuple [.agg (q59 ap (r.drop m.at'.toNat)),.int 0])
   unfold q59 q6j at *
   rw [ep]
   generalize (r.drop m.at'.toNat).q.map q6d=Q2 at *
   generalize r.q.map q6d=Q at *
   generalize r.peers=peers at *
   clear h hU hq hlen ep hp hkq
   refine H.q0o.view q5n rfl rfl ?_
   repeat' (first 
    | (with_reducible refine Fresh.intro fun b hb=>?_) <;> (try simp -dsimp -implicitDefEqProofs [*] at hb)
    | (with_reducible refine Rets.xcall (c _) ?_)
    | (with_reducible refine Rets.xcall (key _) ?_)
    | (simp -dsimp -implicitDefEqProofs [*]))
   exact RetView.drop (st':=st) q5o ⟨rfl,rfl⟩
  ·rw [if_neg hp]
   have key:=fun st=>j3a (r.q.map q6d) ap hap.1 (by rw [List.length_map]; omega) (hap.net (by rw [List.length_map]; omega) (h.pk hn.2)) m.at' (by rw [List.length_map]; exact hp) st
   unfold q59 q6j at *
   generalize r.q.map q6d=Q at *
   generalize r.peers=peers at *
   clear h hU hq hlen hp
   refine H.q0o.view q5n rfl rfl ?_
   repeat' (first 
    | (with_reducible refine Fresh.intro fun b hb=>?_) <;> (try simp -dsimp -implicitDefEqProofs [*] at hb)
    | (with_reducible refine Rets.xcall (c _) ?_)
    | (with_reducible refine Rets.xcall (key _) ?_)
    | (simp -dsimp -implicitDefEqProofs [*]))
   exact RetView.sees (SeesV.le (q:=.tuple [.agg q7l,.int 1]) (PLeV.tuple2 q6q (.refl _))) (RetView.drop (st':=st) q5o ⟨rfl,rfl⟩)
 rw [if_neg k4]
 by_cases k5:m.kind=5
 ·rw [if_pos k5]
  by_cases hp:0<=m.at'/\m.at'<r.q.length
  ·rw [if_pos hp]
   have hkq:m.at'.toNat<r.q.length:=by omega
   have key:∀ st,Rets P F.q1z [q9z (r.q.map q6d) ap,.int m.at'] st (.tuple [q9z ((r.rep m.at'.toNat).q.map q6d) ap,.int 0]):=fun st=>by
    have:=z69 (r.q.map q6d) ap hap.1 (by rw [List.length_map]; omega) (hap.net (by rw [List.length_map]; omega) (h.pk hn.2)) m.at'.toNat (by rw [List.length_map]; exact hkq) st
    have e:r.rep m.at'.toNat={ r with q:=r.q++[r.q[m.at'.toNat]] }:=by unfold PR.rep; rw [List.getElem?_eq_getElem hkq]
    have e2:r.q.map q6d++[(r.q.map q6d)[m.at'.toNat]'(by rw [List.length_map]; exact hkq)]=(r.rep m.at'.toNat).q.map q6d:=by
     rw [e,List.getElem_map]
     show _=(r.q++[_]).map q6d
     rw [List.map_append]
     rfl
    rw [e2] at this
    rw [show ((m.at'.toNat:Nat):Int)=m.at' by omega] at this
    exact this
   have ep:(r.rep m.at'.toNat).peers=r.peers:=by unfold PR.rep; rw [List.getElem?_eq_getElem hkq]
   show Rets P F.q0o [.agg (q59 ap r),.agg (mvE m)] st (.tuple [.agg (q59 ap (r.rep m.at'.toNat)),.int 0])
   unfold q59 q6j at *
   rw [ep]
   generalize (r.rep m.at'.toNat).q.map q6d=Q2 at *
   generalize r.q.map q6d=Q at *
   generalize r.peers=peers at *
   clear h hU hq hlen ep hp hkq
   refine H.q0o.view q5n rfl rfl ?_
   repeat' (first 
    | (with_reducible refine Fresh.intro fun b hb=>?_) <;> (try simp -dsimp -implicitDefEqProofs [*] at hb)
    | (with_reducible refine Rets.xcall (c _) ?_)
    | (with_reducible refine Rets.xcall (key _) ?_)
    | (simp -dsimp -implicitDefEqProofs [*]))
   exact RetView.drop (st':=st) q5o ⟨rfl,rfl⟩
  ·rw [if_neg hp]
   have key:=fun st=>z7a (r.q.map q6d) ap hap.1 (by rw [List.length_map]; omega) (hap.net (by rw [List.length_map]; omega) (h.pk hn.2)) m.at' (by rw [List.length_map]; exact hp) st
   unfold q59 q6j at *
   generalize r.q.map q6d=Q at *
   generalize r.peers=peers at *
   clear h hU hq hlen hp
   refine H.q0o.view q5n rfl rfl ?_
   repeat' (first 
    | (with_reducible refine Fresh.intro fun b hb=>?_) <;> (try simp -dsimp -implicitDefEqProofs [*] at hb)
    | (with_reducible refine Rets.xcall (c _) ?_)
    | (with_reducible refine Rets.xcall (key _) ?_)
    | (simp -dsimp -implicitDefEqProofs [*]))
   exact RetView.sees (SeesV.le (q:=.tuple [.agg q7l,.int 1]) (PLeV.tuple2 q6q (.refl _))) (RetView.drop (st':=st) q5o ⟨rfl,rfl⟩)
 rw [if_neg k5]
 unfold q59 q6j at *
 clear h hU hq hlen
 refine H.q0o.view q5n rfl rfl ?_
 repeat' (first 
  | (with_reducible refine Fresh.intro fun b hb=>?_) <;> (try simp -dsimp -implicitDefEqProofs [*] at hb)
  | (with_reducible refine Rets.xcall (c _) ?_)
  | (simp -dsimp -implicitDefEqProofs [*]))
 exact RetView.sees (SeesV.le (q:=.tuple [.agg q7l,.int 1]) (PLeV.tuple2 q6q (.refl _))) (RetView.drop (st':=st) q5o ⟨rfl,rfl⟩)
theorem z0w (st:q5f):Rets P F.q39 [] st (z6m []):=by
 refine H.q39.view q5n rfl rfl ?_
 repeat' (first 
  | (with_reducible refine Fresh.intro fun b hb=>?_) <;> (try simp -dsimp -implicitDefEqProofs [*] at hb)
  | (simp -dsimp -implicitDefEqProofs [*]))
 exact RetView.sees (SeesV.le (q:=z6m []) k0y) (RetView.drop (st':=st) q5o ⟨rfl,rfl⟩)
theorem j6q (n:Int)(hn:¬ (1<=n/\n<=24))(st:q5f):Rets P F.q2r [.int n] st (.tuple [.agg q7l,.int 1]):=by
 refine H.q2r.view q5n rfl rfl ?_
 by_cases h1:n<1
 ·clear hn
  repeat' (first 
   | (with_reducible refine Fresh.intro fun b hb=>?_) <;> (try simp -dsimp -implicitDefEqProofs [*] at hb)
   | (simp -dsimp -implicitDefEqProofs [*]))
  exact RetView.sees (SeesV.le (q:=.tuple [.agg q7l,.int 1]) (PLeV.tuple2 q6q (.refl _))) (RetView.drop (st':=st) q5o ⟨rfl,rfl⟩)
 ·have h2:24<n:=by omega
  clear hn
  repeat' (first 
   | (with_reducible refine Fresh.intro fun b hb=>?_) <;> (try simp -dsimp -implicitDefEqProofs [*] at hb)
   | (simp -dsimp -implicitDefEqProofs [*]))
  exact RetView.sees (SeesV.le (q:=.tuple [.agg q7l,.int 1]) (PLeV.tuple2 q6q (.refl _))) (RetView.drop (st':=st) q5o ⟨rfl,rfl⟩)
theorem j6r (n:Nat)(hn:1<=n/\n<=24)(st:q5f):Rets P F.q2r [.int n] st (.tuple [.agg (z31 (j69 n)),.int 0]):=by
 have h1:¬ (n:Int)<1:=by omega
 have h2:¬ (24:Int)<n:=by omega
 have h3:(n:Int)*24<=281474976710656:=by omega
 have h4:(n:Int)<=9223372036854775807:=by omega
 refine H.q2r.view q5n rfl rfl ?_
 repeat' (first 
  | (with_reducible refine Fresh.intro fun b hb=>?_) <;> (try simp -dsimp -implicitDefEqProofs [*] at hb)
  | (with_reducible refine q56 (fun _=>z0w _) ?_)
  | (with_reducible refine DrawLate.intro [] ?_)
  | (with_reducible refine q6f ?_ ?_)
  | (with_reducible exact Cls.self _ _)
  | (with_reducible refine q6i ?_ ?_)
  | (simp -dsimp -implicitDefEqProofs [*]))
 have hfr:Frz b (.arr T.apiPeer (List.replicate n .nil)) (.own b 0 n n) (.list false (List.replicate n .nil) n):=by
  have:=Frz.own (b:=b) (o:=.arr T.apiPeer (List.replicate n .nil)) T.apiPeer (List.replicate n .nil) 0 n n 1 rfl (Nat.le_refl _) (by omega)
  rw [List.drop_zero,Nat.mul_one,List.take_of_length_le (by simp)] at this
  exact this
 refine RetView.freeze (.tuple [.agg [.list false (List.replicate n .nil) n,Pk.lst false [],.list false [] 0],.int 0]) (by simp [*]) (.tuple (.cons (.agg (.cons hfr (.cons (.refl _) (.cons (.refl _) .nil)))) (.cons (.refl _) .nil))) ?_
 have e:z31 (j69 n)=[.list false (prR (List.replicate n [])) n,Pk.lst false [],.list false [] 0]:=by
  unfold z31 j69
  simp
 rw [e]
 exact RetView.sees (SeesV.le (q:=.tuple [.agg [.list false (prR (List.replicate n [])) n,Pk.lst false [],.list false [] 0],.int 0]) (PLeV.tuple2 (PLeV.aggs ⟨PLe.lists (z9s n),.refl _,.refl _,trivial⟩) (.refl _))) (RetView.drop (st':=st) q5o ⟨rfl,rfl⟩)
end Go.Proofs.YtmlmoaimjifpgaaGreat
