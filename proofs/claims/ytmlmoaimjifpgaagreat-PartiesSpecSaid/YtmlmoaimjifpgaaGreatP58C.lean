/- Parties: Do. -/
import Derived.Test.YtmlmoaimjifpgaaGreatP58B
import Derived.Test.YtmlmoaimjifpgaaGreatLBx
import Derived.Test.YtmlmoaimjifpgaaGreatN58E
namespace Go.Proofs.YtmlmoaimjifpgaaGreat
open Go.Pv Go.Pv.Cd
set_option maxRecDepth 100000
set_option maxHeartbeats 4000000
set_option linter.unusedVariables false
theorem k9z (r e:Nat)(st:q5f):Defs P F.q08 [.ptr r 0,.ptr e 0] .returning st .returning st:=by
 refine H.q08.defs q5n rfl rfl ?_
 repeat' (simp -dsimp -implicitDefEqProofs [*])
theorem k90 (r e:Nat)(a b c:PV)(n m:Int)(st:q5f)(hr:q55 st r=some (.arr T.apiRoom [a,b,c]))(he:q55 st e=some (.arr T.apiErrno [.int m]))(hne:¬ r=e/\¬ e=r) :
  Defs P F.q08 [.ptr r 0,.ptr e 0] (.panicking (.iface T.apiErrno (.int n))) st .returning (q83 (q83 st r (.arr T.apiRoom [.nil,.nil,.nil])) e (.arr T.apiErrno [.int n])):=by
 refine H.q08.defs q5n rfl rfl ?_
 repeat' (simp -dsimp -implicitDefEqProofs [*])
 have h2:q55 (q83 st r (.arr T.apiRoom [.nil,.nil,.nil])) e=some (.arr T.apiErrno [.int m]):=by
  rw [k8h,if_neg hne.1,he]
 repeat' (simp -dsimp -implicitDefEqProofs [*])
def OwnP (l:List (List Note))(st:q5f)(e:PEnd)(s:q5f):Prop:=∃ b cap,q54 st b/\l.length<=cap/\cap<=9223372036854775807/\e=.ret (.own b 0 l.length cap)/\s=(b,k63 l (List.replicate (cap-l.length) .any))::st
theorem q7q (l:List (List Note))(hl:l.length<=24)(h0:l ≠ [])(st:q5f):PCalls P F.q1l [.list false (prR l) l.length] st (OwnP l st):=by
 have hpl:=q71 l
 have hll:¬ l.length=0:=fun e=>h0 (List.length_eq_zero_iff.1 e)
 refine H.q1l.view q5n rfl rfl ?_
 repeat' (first 
  | (with_reducible refine Lit.imm ?_)
  | ((with_reducible refine Grow.intro ?_ fun b cap hb hc1 hc2=>?_); omega) <;> (try simp -dsimp -implicitDefEqProofs [*] at hb)
  | (with_reducible refine And.intro (fun h=>?_) ?_) <;> (try (exfalso; omega))
  | (simp -dsimp -implicitDefEqProofs [*]))
 ·exact absurd (congrArg List.length ‹prR l=[]›) (by rw [hpl]; exact hll)
 ·exact .same ⟨_,_,hb,hc1,hc2,rfl,rfl⟩
theorem Panics.le {P:Program}{g:FuncId}{ps:List PV}{st st':q5f}{p:PV}(h:Panics P g ps st p)(hle:StLe st st'):PCalls P g ps st' fun e s=>e=.panic p/\s=st:=PCalls.le hle h
def q7l:List PV:=[.list false [] 0,.list false [] 0,.list false [] 0]
theorem q6q:PLe (.agg [.nil,.nil,.nil]) (.agg q7l):=PLeV.aggs ⟨.nil1,.nil1,.nil1,trivial⟩
def j1e (ap:List Lk)(r:PR Note)(k:Nat):PR Note:=match r.q[k]? with
 | none=>r
 | some p=>if j85 ap p then r.drop k else r.deliver q6p k
def j86 (ap:List Lk)(r:PR Note)(m:Mv Note):Sum (PR Note) Int:=
 if m.kind=3 then if 0<=m.at'/\m.at'<r.q.length then .inl (j1e ap r m.at'.toNat) else .inr 1
 else r.act q6p q5q m
def j20 (ap:List Lk)(r:PR Note)(m:Mv Note):List PV:=match j86 ap r m with
 | .inl x=>q59 ap x
 | .inr _=>q7l
def j21 (ap:List Lk)(r:PR Note)(m:Mv Note):Int:=match j86 ap r m with
 | .inl _=>0
 | .inr e=>e
theorem y05 {ap:List Lk}(hap:LksOK ap){r:PR Note}{n:Nat}{U:List Note}(h:InR r n U)(hn:1<=n/\n<=24)(hU:U.length<=1000)(hq:r.q.length<=3000)(m:Mv Note)(hk:m.kind=1)(e:Int)
  (t:∀ pb cap cb C st,Panics P F.q03 [.ptr cb 0,.agg (mvE m)] (mS ap r C cap cb pb st) (.iface T.apiErrno (.int e))) (st:q5f):Rets P F.q0h [.agg (q59 ap r),.agg (mvE m)] st (.tuple [.agg q7l,.int e]):=by
 have c:=fun st=>q6z hap h hn hU (by omega) st
 have hlen:=h.len
 have cl:=fun st=>q7q r.peers (by omega) (by intro e; rw [e] at hlen; simp at hlen; omega) st
 unfold q59 q6j mS at *
 clear hU hq h
 generalize r.peers=peers at *
 generalize r.q.map q6d=Q at *
 subst hlen
 refine H.q0h.view q5n rfl rfl ?_
 repeat' (first 
  | (with_reducible refine Fresh.intro fun b hb=>?_) <;> (try simp -dsimp -implicitDefEqProofs [*] at hb)
  | (with_reducible refine Rets.xcall (c _) ?_)
  | (simp -dsimp -implicitDefEqProofs [H.q08.enters, *]))
 refine q5k (cl _) fun e' s hs=>?_
 obtain⟨pb,cap,hpb,hc1,hc2,rfl,rfl⟩:=hs
 rw [q5x]
 simp only [q7j] at hpb
 clear cl c
 repeat' (simp -dsimp -implicitDefEqProofs [*])
 refine q5k (Panics.le (t pb cap _ (List.replicate (cap-peers.length) .any) _) (StLe.swap (by simp [*]))) fun e' s hs=>?_
 obtain⟨rfl,rfl⟩:=hs
 repeat' (simp -dsimp -implicitDefEqProofs [*])
 refine Defs.xdef (k90 _ _ .nil .nil .nil _ 0 _ (by simp [*]) (by simp [*]) (by simp [*])) ?_
 repeat' (simp -dsimp -implicitDefEqProofs [q84, *])
 exact RetView.sees (SeesV.le (q:=.tuple [.agg q7l,.int e]) (PLeV.tuple2 q6q (.refl _))) (RetView.drop (st':=st) q5o ⟨rfl,rfl⟩)
theorem y72 {ap:List Lk}(hap:LksOK ap){r r2:PR Note}{n:Nat}{U:List Note}(h:InR r n U)(hn:1<=n/\n<=24)(hU:U.length<=1000)(hq:r.q.length<=3000)(m:Mv Note)(hk:m.kind=1)(hr2:r2.peers.length=n)
  (t:∀ pb cap cb C st,n<=cap/\cap<=9223372036854775807->q54 st cb->q54 st pb->(¬ cb=pb/\¬ pb=cb)->Does P F.q03 [.ptr cb 0,.agg (mvE m)] (mS ap r C cap cb pb st) (.tuple []) (mS ap r2 C cap cb pb st)) (st:q5f) :
  Rets P F.q0h [.agg (q59 ap r),.agg (mvE m)] st (.tuple [.agg (q59 ap r2),.int 0]):=by
 have c:=fun st=>q6z hap h hn hU (by omega) st
 have hlen:=h.len
 have cl:=fun st=>q7q r.peers (by omega) (by intro e; rw [e] at hlen; simp at hlen; omega) st
 unfold q59 q6j mS at *
 rw [hr2] at t ⊢
 rw [hlen] at t
 clear hU hq h
 generalize r.peers=peers at *
 generalize r.q.map q6d=Q at *
 generalize r2.peers=peers2 at *
 generalize r2.q.map q6d=Q2 at *
 subst hlen
 refine H.q0h.view q5n rfl rfl ?_
 repeat' (first 
  | (with_reducible refine Fresh.intro fun b hb=>?_) <;> (try simp -dsimp -implicitDefEqProofs [*] at hb)
  | (with_reducible refine Rets.xcall (c _) ?_)
  | (simp -dsimp -implicitDefEqProofs [H.q08.enters, *]))
 refine q5k (cl _) fun e' s hs=>?_
 obtain⟨pb,cap,hpb,hc1,hc2,rfl,rfl⟩:=hs
 rw [q5x]
 simp only [q7j] at hpb
 clear cl c
 repeat' (simp -dsimp -implicitDefEqProofs [*])
 refine q5k (Does.le (t pb cap _ (List.replicate (cap-peers.length) .any) _ ⟨hc1,hc2⟩ (by simp [*]) (by simp [*]) (by simp [*])) (StLe.swap (by simp [*]))) fun e' s hs=>?_
 obtain⟨rfl,rfl⟩:=hs
 clear t
 have hpl:=q71 peers2
 repeat' (simp -dsimp -implicitDefEqProofs [*])
 refine Defs.xdef (k9z _ _ _) ?_
 repeat' (simp -dsimp -implicitDefEqProofs [q84, *])
 refine RetView.fresh1 (by simp [*]) ?_
 have hfr:Frz pb (k63 peers2 (List.replicate (cap-peers.length) .any)) (.own pb 0 peers.length cap) (.list false (prR peers2) peers.length):=by
  have:=Frz.own (b:=pb) (o:=k63 peers2 (List.replicate (cap-peers.length) .any)) T.apiPeer (prR peers2++List.replicate (cap-peers.length) .any) 0 peers.length cap 1 rfl hc1 hc2
  rw [List.drop_zero,Nat.mul_one,List.take_left' (by rw [hpl,hr2])] at this
  exact this
 refine RetView.freeze (.tuple [.agg [.list false (prR peers2) peers.length,Pk.lst false Q2,Lk.lst false ap],.int 0]) (by simp [*]) (.tuple (.cons (.agg (.cons hfr (.cons (.refl _) (.cons (.refl _) .nil)))) (.cons (.refl _) .nil))) ?_
 exact RetView.drop (st':=st) q5o ⟨rfl,rfl⟩
theorem y73 {ap:List Lk}(hap:LksOK ap){r:PR Note}{n:Nat}{U:List Note}(h:InR r n U)(hn:1<=n/\n<=24)(hU:U.length<=1000)(hq:r.q.length<=3000)(m:Mv Note)(hk:m.kind=2)(e:Int)
  (t:∀ pb cap cb C st,Panics P F.q1j [.ptr cb 0,.agg (mvE m)] (mS ap r C cap cb pb st) (.iface T.apiErrno (.int e))) (st:q5f):Rets P F.q0h [.agg (q59 ap r),.agg (mvE m)] st (.tuple [.agg q7l,.int e]):=by
 have c:=fun st=>q6z hap h hn hU (by omega) st
 have hlen:=h.len
 have cl:=fun st=>q7q r.peers (by omega) (by intro e; rw [e] at hlen; simp at hlen; omega) st
 unfold q59 q6j mS at *
 clear hU hq h
 generalize r.peers=peers at *
 generalize r.q.map q6d=Q at *
 subst hlen
 refine H.q0h.view q5n rfl rfl ?_
 repeat' (first 
  | (with_reducible refine Fresh.intro fun b hb=>?_) <;> (try simp -dsimp -implicitDefEqProofs [*] at hb)
  | (with_reducible refine Rets.xcall (c _) ?_)
  | (simp -dsimp -implicitDefEqProofs [H.q08.enters, *]))
 refine q5k (cl _) fun e' s hs=>?_
 obtain⟨pb,cap,hpb,hc1,hc2,rfl,rfl⟩:=hs
 rw [q5x]
 simp only [q7j] at hpb
 clear cl c
 repeat' (simp -dsimp -implicitDefEqProofs [*])
 refine q5k (Panics.le (t pb cap _ (List.replicate (cap-peers.length) .any) _) (StLe.swap (by simp [*]))) fun e' s hs=>?_
 obtain⟨rfl,rfl⟩:=hs
 repeat' (simp -dsimp -implicitDefEqProofs [*])
 refine Defs.xdef (k90 _ _ .nil .nil .nil _ 0 _ (by simp [*]) (by simp [*]) (by simp [*])) ?_
 repeat' (simp -dsimp -implicitDefEqProofs [q84, *])
 exact RetView.sees (SeesV.le (q:=.tuple [.agg q7l,.int e]) (PLeV.tuple2 q6q (.refl _))) (RetView.drop (st':=st) q5o ⟨rfl,rfl⟩)
theorem y74 {ap:List Lk}(hap:LksOK ap){r r2:PR Note}{n:Nat}{U:List Note}(h:InR r n U)(hn:1<=n/\n<=24)(hU:U.length<=1000)(hq:r.q.length<=3000)(m:Mv Note)(hk:m.kind=2)(hr2:r2.peers.length=n)
  (t:∀ pb cap cb C st,n<=cap/\cap<=9223372036854775807->q54 st cb->q54 st pb->(¬ cb=pb/\¬ pb=cb)->Does P F.q1j [.ptr cb 0,.agg (mvE m)] (mS ap r C cap cb pb st) (.tuple []) (mS ap r2 C cap cb pb st)) (st:q5f) :
  Rets P F.q0h [.agg (q59 ap r),.agg (mvE m)] st (.tuple [.agg (q59 ap r2),.int 0]):=by
 have c:=fun st=>q6z hap h hn hU (by omega) st
 have hlen:=h.len
 have cl:=fun st=>q7q r.peers (by omega) (by intro e; rw [e] at hlen; simp at hlen; omega) st
 unfold q59 q6j mS at *
 rw [hr2] at t ⊢
 rw [hlen] at t
 clear hU hq h
 generalize r.peers=peers at *
 generalize r.q.map q6d=Q at *
 generalize r2.peers=peers2 at *
 generalize r2.q.map q6d=Q2 at *
 subst hlen
 refine H.q0h.view q5n rfl rfl ?_
 repeat' (first 
  | (with_reducible refine Fresh.intro fun b hb=>?_) <;> (try simp -dsimp -implicitDefEqProofs [*] at hb)
  | (with_reducible refine Rets.xcall (c _) ?_)
  | (simp -dsimp -implicitDefEqProofs [H.q08.enters, *]))
 refine q5k (cl _) fun e' s hs=>?_
 obtain⟨pb,cap,hpb,hc1,hc2,rfl,rfl⟩:=hs
 rw [q5x]
 simp only [q7j] at hpb
 clear cl c
 repeat' (simp -dsimp -implicitDefEqProofs [*])
 refine q5k (Does.le (t pb cap _ (List.replicate (cap-peers.length) .any) _ ⟨hc1,hc2⟩ (by simp [*]) (by simp [*]) (by simp [*])) (StLe.swap (by simp [*]))) fun e' s hs=>?_
 obtain⟨rfl,rfl⟩:=hs
 clear t
 have hpl:=q71 peers2
 repeat' (simp -dsimp -implicitDefEqProofs [*])
 refine Defs.xdef (k9z _ _ _) ?_
 repeat' (simp -dsimp -implicitDefEqProofs [q84, *])
 refine RetView.fresh1 (by simp [*]) ?_
 have hfr:Frz pb (k63 peers2 (List.replicate (cap-peers.length) .any)) (.own pb 0 peers.length cap) (.list false (prR peers2) peers.length):=by
  have:=Frz.own (b:=pb) (o:=k63 peers2 (List.replicate (cap-peers.length) .any)) T.apiPeer (prR peers2++List.replicate (cap-peers.length) .any) 0 peers.length cap 1 rfl hc1 hc2
  rw [List.drop_zero,Nat.mul_one,List.take_left' (by rw [hpl,hr2])] at this
  exact this
 refine RetView.freeze (.tuple [.agg [.list false (prR peers2) peers.length,Pk.lst false Q2,Lk.lst false ap],.int 0]) (by simp [*]) (.tuple (.cons (.agg (.cons hfr (.cons (.refl _) (.cons (.refl _) .nil)))) (.cons (.refl _) .nil))) ?_
 exact RetView.drop (st':=st) q5o ⟨rfl,rfl⟩
theorem y75 {ap:List Lk}(hap:LksOK ap){r:PR Note}{n:Nat}{U:List Note}(h:InR r n U)(hn:1<=n/\n<=24)(hU:U.length<=1000)(hq:r.q.length<=3000)(m:Mv Note)(hk:m.kind=3)(e:Int)
  (t:∀ pb cap cb C st,Panics P F.q0s [.ptr cb 0,.agg (mvE m)] (mS ap r C cap cb pb st) (.iface T.apiErrno (.int e))) (st:q5f):Rets P F.q0h [.agg (q59 ap r),.agg (mvE m)] st (.tuple [.agg q7l,.int e]):=by
 have c:=fun st=>q6z hap h hn hU (by omega) st
 have hlen:=h.len
 have cl:=fun st=>q7q r.peers (by omega) (by intro e; rw [e] at hlen; simp at hlen; omega) st
 unfold q59 q6j mS at *
 clear hU hq h
 generalize r.peers=peers at *
 generalize r.q.map q6d=Q at *
 subst hlen
 refine H.q0h.view q5n rfl rfl ?_
 repeat' (first 
  | (with_reducible refine Fresh.intro fun b hb=>?_) <;> (try simp -dsimp -implicitDefEqProofs [*] at hb)
  | (with_reducible refine Rets.xcall (c _) ?_)
  | (simp -dsimp -implicitDefEqProofs [H.q08.enters, *]))
 refine q5k (cl _) fun e' s hs=>?_
 obtain⟨pb,cap,hpb,hc1,hc2,rfl,rfl⟩:=hs
 rw [q5x]
 simp only [q7j] at hpb
 clear cl c
 repeat' (simp -dsimp -implicitDefEqProofs [*])
 refine q5k (Panics.le (t pb cap _ (List.replicate (cap-peers.length) .any) _) (StLe.swap (by simp [*]))) fun e' s hs=>?_
 obtain⟨rfl,rfl⟩:=hs
 repeat' (simp -dsimp -implicitDefEqProofs [*])
 refine Defs.xdef (k90 _ _ .nil .nil .nil _ 0 _ (by simp [*]) (by simp [*]) (by simp [*])) ?_
 repeat' (simp -dsimp -implicitDefEqProofs [q84, *])
 exact RetView.sees (SeesV.le (q:=.tuple [.agg q7l,.int e]) (PLeV.tuple2 q6q (.refl _))) (RetView.drop (st':=st) q5o ⟨rfl,rfl⟩)
theorem y06 {ap:List Lk}(hap:LksOK ap){r r2:PR Note}{n:Nat}{U:List Note}(h:InR r n U)(hn:1<=n/\n<=24)(hU:U.length<=1000)(hq:r.q.length<=3000)(m:Mv Note)(hk:m.kind=3)(hr2:r2.peers.length=n)
  (t:∀ pb cap cb C st,n<=cap/\cap<=9223372036854775807->q54 st cb->q54 st pb->(¬ cb=pb/\¬ pb=cb)->Does P F.q0s [.ptr cb 0,.agg (mvE m)] (mS ap r C cap cb pb st) (.tuple []) (mS ap r2 C cap cb pb st)) (st:q5f) :
  Rets P F.q0h [.agg (q59 ap r),.agg (mvE m)] st (.tuple [.agg (q59 ap r2),.int 0]):=by
 have c:=fun st=>q6z hap h hn hU (by omega) st
 have hlen:=h.len
 have cl:=fun st=>q7q r.peers (by omega) (by intro e; rw [e] at hlen; simp at hlen; omega) st
 unfold q59 q6j mS at *
 rw [hr2] at t ⊢
 rw [hlen] at t
 clear hU hq h
 generalize r.peers=peers at *
 generalize r.q.map q6d=Q at *
 generalize r2.peers=peers2 at *
 generalize r2.q.map q6d=Q2 at *
 subst hlen
 refine H.q0h.view q5n rfl rfl ?_
 repeat' (first 
  | (with_reducible refine Fresh.intro fun b hb=>?_) <;> (try simp -dsimp -implicitDefEqProofs [*] at hb)
  | (with_reducible refine Rets.xcall (c _) ?_)
  | (simp -dsimp -implicitDefEqProofs [H.q08.enters, *]))
 refine q5k (cl _) fun e' s hs=>?_
 obtain⟨pb,cap,hpb,hc1,hc2,rfl,rfl⟩:=hs
 rw [q5x]
 simp only [q7j] at hpb
 clear cl c
 repeat' (simp -dsimp -implicitDefEqProofs [*])
 refine q5k (Does.le (t pb cap _ (List.replicate (cap-peers.length) .any) _ ⟨hc1,hc2⟩ (by simp [*]) (by simp [*]) (by simp [*])) (StLe.swap (by simp [*]))) fun e' s hs=>?_
 obtain⟨rfl,rfl⟩:=hs
 clear t
 have hpl:=q71 peers2
 repeat' (simp -dsimp -implicitDefEqProofs [*])
 refine Defs.xdef (k9z _ _ _) ?_
 repeat' (simp -dsimp -implicitDefEqProofs [q84, *])
 refine RetView.fresh1 (by simp [*]) ?_
 have hfr:Frz pb (k63 peers2 (List.replicate (cap-peers.length) .any)) (.own pb 0 peers.length cap) (.list false (prR peers2) peers.length):=by
  have:=Frz.own (b:=pb) (o:=k63 peers2 (List.replicate (cap-peers.length) .any)) T.apiPeer (prR peers2++List.replicate (cap-peers.length) .any) 0 peers.length cap 1 rfl hc1 hc2
  rw [List.drop_zero,Nat.mul_one,List.take_left' (by rw [hpl,hr2])] at this
  exact this
 refine RetView.freeze (.tuple [.agg [.list false (prR peers2) peers.length,Pk.lst false Q2,Lk.lst false ap],.int 0]) (by simp [*]) (.tuple (.cons (.agg (.cons hfr (.cons (.refl _) (.cons (.refl _) .nil)))) (.cons (.refl _) .nil))) ?_
 exact RetView.drop (st':=st) q5o ⟨rfl,rfl⟩
theorem y76 {ap:List Lk}(hap:LksOK ap){r:PR Note}{n:Nat}{U:List Note}(h:InR r n U)(hn:1<=n/\n<=24)(hU:U.length<=1000)(hq:r.q.length<=3000)(m:Mv Note)(hk:m.kind=4)(e:Int)
  (t:∀ pb cap cb C st,Panics P F.q1k [.ptr cb 0,.agg (mvE m)] (mS ap r C cap cb pb st) (.iface T.apiErrno (.int e))) (st:q5f):Rets P F.q0h [.agg (q59 ap r),.agg (mvE m)] st (.tuple [.agg q7l,.int e]):=by
 have c:=fun st=>q6z hap h hn hU (by omega) st
 have hlen:=h.len
 have cl:=fun st=>q7q r.peers (by omega) (by intro e; rw [e] at hlen; simp at hlen; omega) st
 unfold q59 q6j mS at *
 clear hU hq h
 generalize r.peers=peers at *
 generalize r.q.map q6d=Q at *
 subst hlen
 refine H.q0h.view q5n rfl rfl ?_
 repeat' (first 
  | (with_reducible refine Fresh.intro fun b hb=>?_) <;> (try simp -dsimp -implicitDefEqProofs [*] at hb)
  | (with_reducible refine Rets.xcall (c _) ?_)
  | (simp -dsimp -implicitDefEqProofs [H.q08.enters, *]))
 refine q5k (cl _) fun e' s hs=>?_
 obtain⟨pb,cap,hpb,hc1,hc2,rfl,rfl⟩:=hs
 rw [q5x]
 simp only [q7j] at hpb
 clear cl c
 repeat' (simp -dsimp -implicitDefEqProofs [*])
 refine q5k (Panics.le (t pb cap _ (List.replicate (cap-peers.length) .any) _) (StLe.swap (by simp [*]))) fun e' s hs=>?_
 obtain⟨rfl,rfl⟩:=hs
 repeat' (simp -dsimp -implicitDefEqProofs [*])
 refine Defs.xdef (k90 _ _ .nil .nil .nil _ 0 _ (by simp [*]) (by simp [*]) (by simp [*])) ?_
 repeat' (simp -dsimp -implicitDefEqProofs [q84, *])
 exact RetView.sees (SeesV.le (q:=.tuple [.agg q7l,.int e]) (PLeV.tuple2 q6q (.refl _))) (RetView.drop (st':=st) q5o ⟨rfl,rfl⟩)
theorem y77 {ap:List Lk}(hap:LksOK ap){r r2:PR Note}{n:Nat}{U:List Note}(h:InR r n U)(hn:1<=n/\n<=24)(hU:U.length<=1000)(hq:r.q.length<=3000)(m:Mv Note)(hk:m.kind=4)(hr2:r2.peers.length=n)
  (t:∀ pb cap cb C st,n<=cap/\cap<=9223372036854775807->q54 st cb->q54 st pb->(¬ cb=pb/\¬ pb=cb)->Does P F.q1k [.ptr cb 0,.agg (mvE m)] (mS ap r C cap cb pb st) (.tuple []) (mS ap r2 C cap cb pb st)) (st:q5f) :
  Rets P F.q0h [.agg (q59 ap r),.agg (mvE m)] st (.tuple [.agg (q59 ap r2),.int 0]):=by
 have c:=fun st=>q6z hap h hn hU (by omega) st
 have hlen:=h.len
 have cl:=fun st=>q7q r.peers (by omega) (by intro e; rw [e] at hlen; simp at hlen; omega) st
 unfold q59 q6j mS at *
 rw [hr2] at t ⊢
 rw [hlen] at t
 clear hU hq h
 generalize r.peers=peers at *
 generalize r.q.map q6d=Q at *
 generalize r2.peers=peers2 at *
 generalize r2.q.map q6d=Q2 at *
 subst hlen
 refine H.q0h.view q5n rfl rfl ?_
 repeat' (first 
  | (with_reducible refine Fresh.intro fun b hb=>?_) <;> (try simp -dsimp -implicitDefEqProofs [*] at hb)
  | (with_reducible refine Rets.xcall (c _) ?_)
  | (simp -dsimp -implicitDefEqProofs [H.q08.enters, *]))
 refine q5k (cl _) fun e' s hs=>?_
 obtain⟨pb,cap,hpb,hc1,hc2,rfl,rfl⟩:=hs
 rw [q5x]
 simp only [q7j] at hpb
 clear cl c
 repeat' (simp -dsimp -implicitDefEqProofs [*])
 refine q5k (Does.le (t pb cap _ (List.replicate (cap-peers.length) .any) _ ⟨hc1,hc2⟩ (by simp [*]) (by simp [*]) (by simp [*])) (StLe.swap (by simp [*]))) fun e' s hs=>?_
 obtain⟨rfl,rfl⟩:=hs
 clear t
 have hpl:=q71 peers2
 repeat' (simp -dsimp -implicitDefEqProofs [*])
 refine Defs.xdef (k9z _ _ _) ?_
 repeat' (simp -dsimp -implicitDefEqProofs [q84, *])
 refine RetView.fresh1 (by simp [*]) ?_
 have hfr:Frz pb (k63 peers2 (List.replicate (cap-peers.length) .any)) (.own pb 0 peers.length cap) (.list false (prR peers2) peers.length):=by
  have:=Frz.own (b:=pb) (o:=k63 peers2 (List.replicate (cap-peers.length) .any)) T.apiPeer (prR peers2++List.replicate (cap-peers.length) .any) 0 peers.length cap 1 rfl hc1 hc2
  rw [List.drop_zero,Nat.mul_one,List.take_left' (by rw [hpl,hr2])] at this
  exact this
 refine RetView.freeze (.tuple [.agg [.list false (prR peers2) peers.length,Pk.lst false Q2,Lk.lst false ap],.int 0]) (by simp [*]) (.tuple (.cons (.agg (.cons hfr (.cons (.refl _) (.cons (.refl _) .nil)))) (.cons (.refl _) .nil))) ?_
 exact RetView.drop (st':=st) q5o ⟨rfl,rfl⟩
theorem y78 {ap:List Lk}(hap:LksOK ap){r:PR Note}{n:Nat}{U:List Note}(h:InR r n U)(hn:1<=n/\n<=24)(hU:U.length<=1000)(hq:r.q.length<=3000)(m:Mv Note)(hk:m.kind=5)(e:Int)
  (t:∀ pb cap cb C st,Panics P F.q07 [.ptr cb 0,.agg (mvE m)] (mS ap r C cap cb pb st) (.iface T.apiErrno (.int e))) (st:q5f):Rets P F.q0h [.agg (q59 ap r),.agg (mvE m)] st (.tuple [.agg q7l,.int e]):=by
 have c:=fun st=>q6z hap h hn hU (by omega) st
 have hlen:=h.len
 have cl:=fun st=>q7q r.peers (by omega) (by intro e; rw [e] at hlen; simp at hlen; omega) st
 unfold q59 q6j mS at *
 clear hU hq h
 generalize r.peers=peers at *
 generalize r.q.map q6d=Q at *
 subst hlen
 refine H.q0h.view q5n rfl rfl ?_
 repeat' (first 
  | (with_reducible refine Fresh.intro fun b hb=>?_) <;> (try simp -dsimp -implicitDefEqProofs [*] at hb)
  | (with_reducible refine Rets.xcall (c _) ?_)
  | (simp -dsimp -implicitDefEqProofs [H.q08.enters, *]))
 refine q5k (cl _) fun e' s hs=>?_
 obtain⟨pb,cap,hpb,hc1,hc2,rfl,rfl⟩:=hs
 rw [q5x]
 simp only [q7j] at hpb
 clear cl c
 repeat' (simp -dsimp -implicitDefEqProofs [*])
 refine q5k (Panics.le (t pb cap _ (List.replicate (cap-peers.length) .any) _) (StLe.swap (by simp [*]))) fun e' s hs=>?_
 obtain⟨rfl,rfl⟩:=hs
 repeat' (simp -dsimp -implicitDefEqProofs [*])
 refine Defs.xdef (k90 _ _ .nil .nil .nil _ 0 _ (by simp [*]) (by simp [*]) (by simp [*])) ?_
 repeat' (simp -dsimp -implicitDefEqProofs [q84, *])
 exact RetView.sees (SeesV.le (q:=.tuple [.agg q7l,.int e]) (PLeV.tuple2 q6q (.refl _))) (RetView.drop (st':=st) q5o ⟨rfl,rfl⟩)
theorem y79 {ap:List Lk}(hap:LksOK ap){r r2:PR Note}{n:Nat}{U:List Note}(h:InR r n U)(hn:1<=n/\n<=24)(hU:U.length<=1000)(hq:r.q.length<=3000)(m:Mv Note)(hk:m.kind=5)(hr2:r2.peers.length=n)
  (t:∀ pb cap cb C st,n<=cap/\cap<=9223372036854775807->q54 st cb->q54 st pb->(¬ cb=pb/\¬ pb=cb)->Does P F.q07 [.ptr cb 0,.agg (mvE m)] (mS ap r C cap cb pb st) (.tuple []) (mS ap r2 C cap cb pb st)) (st:q5f) :
  Rets P F.q0h [.agg (q59 ap r),.agg (mvE m)] st (.tuple [.agg (q59 ap r2),.int 0]):=by
 have c:=fun st=>q6z hap h hn hU (by omega) st
 have hlen:=h.len
 have cl:=fun st=>q7q r.peers (by omega) (by intro e; rw [e] at hlen; simp at hlen; omega) st
 unfold q59 q6j mS at *
 rw [hr2] at t ⊢
 rw [hlen] at t
 clear hU hq h
 generalize r.peers=peers at *
 generalize r.q.map q6d=Q at *
 generalize r2.peers=peers2 at *
 generalize r2.q.map q6d=Q2 at *
 subst hlen
 refine H.q0h.view q5n rfl rfl ?_
 repeat' (first 
  | (with_reducible refine Fresh.intro fun b hb=>?_) <;> (try simp -dsimp -implicitDefEqProofs [*] at hb)
  | (with_reducible refine Rets.xcall (c _) ?_)
  | (simp -dsimp -implicitDefEqProofs [H.q08.enters, *]))
 refine q5k (cl _) fun e' s hs=>?_
 obtain⟨pb,cap,hpb,hc1,hc2,rfl,rfl⟩:=hs
 rw [q5x]
 simp only [q7j] at hpb
 clear cl c
 repeat' (simp -dsimp -implicitDefEqProofs [*])
 refine q5k (Does.le (t pb cap _ (List.replicate (cap-peers.length) .any) _ ⟨hc1,hc2⟩ (by simp [*]) (by simp [*]) (by simp [*])) (StLe.swap (by simp [*]))) fun e' s hs=>?_
 obtain⟨rfl,rfl⟩:=hs
 clear t
 have hpl:=q71 peers2
 repeat' (simp -dsimp -implicitDefEqProofs [*])
 refine Defs.xdef (k9z _ _ _) ?_
 repeat' (simp -dsimp -implicitDefEqProofs [q84, *])
 refine RetView.fresh1 (by simp [*]) ?_
 have hfr:Frz pb (k63 peers2 (List.replicate (cap-peers.length) .any)) (.own pb 0 peers.length cap) (.list false (prR peers2) peers.length):=by
  have:=Frz.own (b:=pb) (o:=k63 peers2 (List.replicate (cap-peers.length) .any)) T.apiPeer (prR peers2++List.replicate (cap-peers.length) .any) 0 peers.length cap 1 rfl hc1 hc2
  rw [List.drop_zero,Nat.mul_one,List.take_left' (by rw [hpl,hr2])] at this
  exact this
 refine RetView.freeze (.tuple [.agg [.list false (prR peers2) peers.length,Pk.lst false Q2,Lk.lst false ap],.int 0]) (by simp [*]) (.tuple (.cons (.agg (.cons hfr (.cons (.refl _) (.cons (.refl _) .nil)))) (.cons (.refl _) .nil))) ?_
 exact RetView.drop (st':=st) q5o ⟨rfl,rfl⟩
theorem j1f {ap:List Lk}(hap:LksOK ap){r:PR Note}{n:Nat}{U:List Note}(h:InR r n U)(hn:1<=n/\n<=24)(hU:U.length<=1000)(hq:r.q.length<=3000)(m:Mv Note)(st:q5f) :
  Rets P F.q0h [.agg (q59 ap r),.agg (mvE m)] st (.tuple [.agg (j20 ap r m),.int (j21 ap r m)]):=by
 have hlen:=h.len
 have nat:∀ (x:Int) (k:Nat),0<=x/\x<k->x=(x.toNat:Int):=fun x k hx=>by omega
 unfold j20 j21 j86
 by_cases k3:m.kind=3
 ·rw [if_pos k3]
  by_cases hp:0<=m.at'/\m.at'<r.q.length
  ·rw [if_pos hp]
   have hkq:m.at'.toNat<r.q.length:=by omega
   have hg:=List.getElem?_eq_getElem hkq
   by_cases hc:j85 ap r.q[m.at'.toNat]
   ·have e:j1e ap r m.at'.toNat=r.drop m.at'.toNat:=by unfold j1e; rw [hg]; exact if_pos hc
    rw [e]
    exact y06 (r2:=r.drop m.at'.toNat) hap h hn hU hq m k3 hlen (fun pb cap cb C st _ h1 h2 h3=>z61 hap h hn.2 hq m m.at'.toNat (by omega) hkq hc C cap cb pb st h1 h2 h3) st
   ·have e:j1e ap r m.at'.toNat=r.deliver q6p m.at'.toNat:=by unfold j1e; rw [hg]; exact if_neg hc
    rw [e]
    exact y06 hap h hn hU hq m k3 (h.deliver cmpN_ord _).len (fun pb cap cb C st hc2 h1 h2 h3=>z9q hap h hn.2 hU hq m m.at'.toNat (by omega) hkq hc C cap cb pb hc2 st h1 h2 h3) st
  ·rw [if_neg hp]
   exact y75 hap h hn hU hq m k3 1 (fun pb cap cb C st=>z9o hap h hn.2 hq m hp C cap cb pb st) st
 rw [if_neg k3]
 unfold PR.act
 by_cases k1:m.kind=1
 ·rw [if_pos k1]
  by_cases hp:0<=m.peer/\m.peer<r.peers.length
  ·rw [if_pos hp]
   by_cases hf:q5q m.note=true
   ·rw [if_pos hf]
    exact y72 hap h hn hU hq m k1 (by show (r.peers.set _ _).length=n; rw [List.length_set]; exact hlen) (fun pb cap cb C st hc h1 h2 h3=>y21 hap h hn.2 hU hq m m.peer.toNat (by omega) (by omega) hf C cap cb pb hc st h1 h2 h3) st
   ·rw [if_neg hf]
    exact y05 hap h hn hU hq m k1 580 (fun pb cap cb C st=>j82 ap m pb _ cap _ hp (by simpa using hf) cb _) st
  ·rw [if_neg hp]
   exact y05 hap h hn hU hq m k1 1 (fun pb cap cb C st=>j81 ap m pb _ cap _ hp cb _) st
 rw [if_neg k1]
 by_cases k2:m.kind=2
 ·rw [if_pos k2]
  by_cases hp:(0<=m.peer/\m.peer<r.peers.length)/\(0<=m.to/\m.to<r.peers.length)/\m.peer ≠ m.to
  ·rw [if_pos hp]
   exact y74 (r2:=r.send (r.all m.peer.toNat m.to.toNat)) hap h hn hU hq m k2 hlen (fun pb cap cb C st hc h1 h2 h3=>y22 hap h hn.2 hU hq m m.peer.toNat m.to.toNat (by omega) (by omega) (by omega) (by omega) (by omega) C cap cb pb hc st h1 h2 h3) st
  ·rw [if_neg hp]
   exact y73 hap h hn hU hq m k2 1 (fun pb cap cb C st=>y23 ap m pb _ cap _ hp cb _) st
 rw [if_neg k2,if_neg k3]
 by_cases k4:m.kind=4
 ·rw [if_pos k4]
  by_cases hp:0<=m.at'/\m.at'<r.q.length
  ·rw [if_pos hp]
   exact y77 (r2:=r.drop m.at'.toNat) hap h hn hU hq m k4 hlen (fun pb cap cb C st hc h1 h2 h3=>j83 hap h hn.2 hq m m.at'.toNat (by omega) (by omega) C cap cb pb st h1 h2 h3) st
  ·rw [if_neg hp]
   exact y76 hap h hn hU hq m k4 1 (fun pb cap cb C st=>j84 hap h hn.2 hq m hp C cap cb pb st) st
 rw [if_neg k4]
 by_cases k5:m.kind=5
 ·rw [if_pos k5]
  by_cases hp:0<=m.at'/\m.at'<r.q.length
  ·rw [if_pos hp]
   exact y79 hap h hn hU hq m k5 (h.rep _).len (fun pb cap cb C st hc h1 h2 h3=>j2y hap h hn.2 hq m m.at'.toNat (by omega) (by omega) C cap cb pb st h1 h2 h3) st
  ·rw [if_neg hp]
   exact y78 hap h hn hU hq m k5 1 (fun pb cap cb C st=>j2z hap h hn.2 hq m hp C cap cb pb st) st
 rw [if_neg k5]
 have c:=fun st=>q6z hap h hn hU (by omega) st
 unfold q59 q6j at *
 clear hU hq h
 generalize r.peers=peers at *
 generalize r.q.map q6d=Q at *
 subst hlen
 refine H.q0h.view q5n rfl rfl ?_
 repeat' (first 
  | (with_reducible refine Fresh.intro fun b hb=>?_) <;> (try simp -dsimp -implicitDefEqProofs [*] at hb)
  | (with_reducible refine Rets.xcall (c _) ?_)
  | (simp -dsimp -implicitDefEqProofs [H.q08.enters, *]))
 exact RetView.sees (SeesV.le (q:=.tuple [.agg q7l,.int 1]) (PLeV.tuple2 q6q (.refl _))) (RetView.drop (st':=st) q5o ⟨rfl,rfl⟩)
theorem j87 (r:PR Note){n:Nat}{U:List Note}(h:InR r n U)(m:Mv Note):j86 [] r m=r.act q6p q5q m:=by
 unfold j86
 by_cases k3:m.kind=3
 ·have k1:¬ m.kind=1:=by omega
  have k2:¬ m.kind=2:=by omega
  unfold PR.act
  rw [if_pos k3,if_neg k1,if_neg k2,if_pos k3]
  by_cases hp:0<=m.at'/\m.at'<r.q.length
  ·rw [if_pos hp,if_pos hp]
   have hkq:m.at'.toNat<r.q.length:=by omega
   have e:j1e [] r m.at'.toNat=r.deliver q6p m.at'.toNat:=by
    unfold j1e
    rw [List.getElem?_eq_getElem hkq]
    exact if_neg List.not_mem_nil
   rw [e]
  ·rw [if_neg hp,if_neg hp]
 ·rw [if_neg k3]
def y46 (r:PR Note)(m:Mv Note):List PV:=match r.act q6p q5q m with
 | .inl x=>z31 x
 | .inr _=>q7l
def y47 (r:PR Note)(m:Mv Note):Int:=match r.act q6p q5q m with
 | .inl _=>0
 | .inr e=>e
theorem k8f {r:PR Note}{n:Nat}{U:List Note}(h:InR r n U)(hn:1<=n/\n<=24)(hU:U.length<=1000)(hq:r.q.length<=3000)(m:Mv Note)(st:q5f) :
  Rets P F.q0h [.agg (z31 r),.agg (mvE m)] st (.tuple [.agg (y46 r m),.int (y47 r m)]):=by
 have:=j1f j54 h hn hU hq m st
 unfold j20 j21 at this
 rw [j87 r h] at this
 unfold y46 y47
 cases hz:r.act q6p q5q m with
 | inl x=>rw [hz] at this; exact this
 | inr e=>rw [hz] at this; exact this
open Go.Pv Go.Pv.Cd
set_option maxRecDepth 100000
set_option maxHeartbeats 4000000
set_option linter.unusedVariables false
theorem z9r (st:q5f):Rets P F.q4r [] st (z6m []):=by
 refine H.q4r.view q5n rfl rfl ?_
 repeat' (first 
  | (with_reducible refine Fresh.intro fun b hb=>?_) <;> (try simp -dsimp -implicitDefEqProofs [*] at hb)
  | (simp -dsimp -implicitDefEqProofs [*]))
 exact RetView.sees (SeesV.le (q:=z6m []) k0y) (RetView.drop (st':=st) q5o ⟨rfl,rfl⟩)
def j69 (n:Nat):PR Note:=⟨List.replicate n [],[],[]⟩
theorem newR_in {n:Nat}:InR (j69 n) n []:=
 ⟨List.length_replicate ..,fun l hl=>by rw [(List.mem_replicate.1 hl).2]; exact .nil,fun l hl y hy=>by rw [(List.mem_replicate.1 hl).2] at hy; exact hy,fun p hp=>absurd hp List.not_mem_nil,rfl⟩
theorem z9s:∀ n:Nat,PsLe (List.replicate n PV.nil) (prR (List.replicate n ([]:List Note)))
 | 0=>trivial
 | n+1=>⟨.nil1,z9s n⟩
theorem y07 (n:Int)(hn:¬ (1<=n/\n<=24))(st:q5f):Rets P F.q2k [.int n] st (.tuple [.agg q7l,.int 1]):=by
 refine H.q2k.view q5n rfl rfl ?_
 by_cases h1:n<1
 ·clear hn
  repeat' (first 
   | (with_reducible refine Fresh.intro fun b hb=>?_) <;> (try simp -dsimp -implicitDefEqProofs [*] at hb)
   | (simp -dsimp -implicitDefEqProofs [*]))
  exact RetView.sees (SeesV.le (q:=.tuple [.agg q7l,.int 1]) (PLeV.tuple2 q6q (.refl _))) (RetView.drop (st':=st) q5o ⟨rfl,rfl⟩)
 ·have h2:24<n:=by omega
  clear hn
  repeat' (first 
   | (with_reducible refine Fresh.intro fun b hb=>?_) <;> (try simp -dsimp -implicitDefEqProofs [*] at hb)
   | (simp -dsimp -implicitDefEqProofs [*]))
  exact RetView.sees (SeesV.le (q:=.tuple [.agg q7l,.int 1]) (PLeV.tuple2 q6q (.refl _))) (RetView.drop (st':=st) q5o ⟨rfl,rfl⟩)
theorem y08 (n:Nat)(hn:1<=n/\n<=24)(st:q5f):Rets P F.q2k [.int n] st (.tuple [.agg (z31 (j69 n)),.int 0]):=by
 have h1:¬ (n:Int)<1:=by omega
 have h2:¬ (24:Int)<n:=by omega
 have h3:(n:Int)*24<=281474976710656:=by omega
 have h4:(n:Int)<=9223372036854775807:=by omega
 refine H.q2k.view q5n rfl rfl ?_
 repeat' (first 
  | (with_reducible refine Fresh.intro fun b hb=>?_) <;> (try simp -dsimp -implicitDefEqProofs [*] at hb)
  | (with_reducible refine q56 (fun _=>z9r _) ?_)
  | (with_reducible refine DrawLate.intro [] ?_)
  | (with_reducible refine q6f ?_ ?_)
  | (with_reducible exact Cls.self _ _)
  | (with_reducible refine q6i ?_ ?_)
  | (simp -dsimp -implicitDefEqProofs [*]))
 have hfr:Frz b (.arr T.apiPeer (List.replicate n .nil)) (.own b 0 n n) (.list false (List.replicate n .nil) n):=by
  have:=Frz.own (b:=b) (o:=.arr T.apiPeer (List.replicate n .nil)) T.apiPeer (List.replicate n .nil) 0 n n 1 rfl (Nat.le_refl _) (by omega)
  rw [List.drop_zero,Nat.mul_one,List.take_of_length_le (by simp)] at this
  exact this
 refine RetView.freeze (.tuple [.agg [.list false (List.replicate n .nil) n,Pk.lst false [],.list false [] 0],.int 0]) (by simp [*]) (.tuple (.cons (.agg (.cons hfr (.cons (.refl _) (.cons (.refl _) .nil)))) (.cons (.refl _) .nil))) ?_
 have e:z31 (j69 n)=[.list false (prR (List.replicate n [])) n,Pk.lst false [],.list false [] 0]:=by
  unfold z31 j69
  simp
 rw [e]
 exact RetView.sees (SeesV.le (q:=.tuple [.agg [.list false (prR (List.replicate n [])) n,Pk.lst false [],.list false [] 0],.int 0]) (PLeV.tuple2 (PLeV.aggs ⟨PLe.lists (z9s n),.refl _,.refl _,trivial⟩) (.refl _))) (RetView.drop (st':=st) q5o ⟨rfl,rfl⟩)
open Go.Pv Go.Pv.Cd
set_option maxRecDepth 100000
set_option maxHeartbeats 8000000
def z9t (L:List (List (BitVec 8))):List PV:=L.map (q53 false)
theorem j88 (L:List (List (BitVec 8))):(z9t L).length=L.length*1:=by simp [z9t]
@[simp] theorem j59 (L:List (List (BitVec 8))):(z9t L).length=L.length:=by simp [z9t]
theorem j89 (L M:List (List (BitVec 8))):z9t (L++M)=z9t L++z9t M:=List.map_append
theorem z62 (l:List Note)(h:Rise q6p okN l)(hl:l.length<=1000)(st:q5f) :
  Rets P F.q3c [.agg [Note.lst false l]] st (.tuple [.list false (z9t (l.map msg)) l.length,.int 0]):=by
 have hv:=fun st=>k2i l (by omega) true ⟨fun _=>⟨h,by omega⟩,fun _=>rfl⟩ st
 have hok:=Hid.mk h.1
 clear h
 have hrl:=Note.row_len l
 refine H.q3c.view q5n rfl rfl ?_
 repeat' (first 
  | (with_reducible refine Fresh.intro fun b hb=>?_) <;> (try simp -dsimp -implicitDefEqProofs [*] at hb)
  | (with_reducible refine Rets.xcall (hv _) ?_)
  | (simp -dsimp -implicitDefEqProofs [*]))
 refine q5h (σ:=Nat × Option (Acc (List (BitVec 8)))) (fun x=>[(2,q7s x.2),(10,Note.lst false l),(11,.int l.length),(12,.int (x.1:Nat))]) (fun x=>q6e T.Luint8 st x.2) (fun x=>x.1<=l.length/\accOk z9t 1 st x.2/\q50 x.2=(l.take x.1).map msg) (fun x=>l.length-x.1) (0,none) ⟨Nat.zero_le _,trivial,rfl⟩ (by simp) q5o ?_
 rintro⟨i,o⟩ ⟨hi,ho,hol⟩
 simp only at hi ho hol
 have hw:=q5i (n:=i) (by omega)
 by_cases hil:i<l.length
 case neg=>
  obtain rfl:i=l.length:=by omega
  rw [List.take_length] at hol
  have kl:=Hid.mk hol
  clear hol
  repeat' (simp -dsimp -implicitDefEqProofs [*])
  refine RetView.accP2 rfl ho (.drop (st':=st) q5o ⟨?_,rfl⟩)
  rw [kl.out,List.length_map]
 have hsub:=Note.row_sub l i hil
 have hm:=fun st=>q9v l[i] (hok.out _ (List.getElem_mem hil)) st
 have hlen:(q50 o).length=i:=by rw [hol,List.length_map,List.length_take]; omega
 have hms:(k60 (msg l[i])).size<=140737488355328:=by
  rw [k1o]
  have:=k04 (hok.out _ (List.getElem_mem hil))
  omega
 have nx:Hid (q50 o++[msg l[i]]=(l.take (i+1)).map msg):=⟨by rw [hol,List.take_succ_eq_append_getElem hil,List.map_append]; rfl⟩
 clear hol
 generalize l[i]=x at *
 repeat' (first 
  | (with_reducible refine Fresh.intro fun b hb=>?_) <;> (try simp -dsimp -implicitDefEqProofs [*] at hb)
  | (with_reducible refine Rets.xcall (hm _) ?_)
  | (with_reducible refine Lit.imm ?_)
  | (simp -dsimp -implicitDefEqProofs [k64, *]))
 refine xappend_box j88 j89 o ho hb [msg x] rfl rfl (by omega) (by omega) fun o' ho' hl'=>?_
 have kl:=Hid.mk hl'
 clear hl'
 repeat' (simp -dsimp -implicitDefEqProofs [*])
 exact Next.intro (i+1,o') ⟨by simp only; omega,ho'.unbox,by rw [kl.out,nx.out]⟩ (by simp only; omega) (by simp) (StLe.box o' (accB_new hb).2)
end Go.Proofs.YtmlmoaimjifpgaaGreat
