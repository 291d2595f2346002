/- Parties: Do. -/
import Derived.Test.YtmlmoaimjifpgaaGreatP58A
import Derived.Test.YtmlmoaimjifpgaaGreatLBx
import Derived.Test.YtmlmoaimjifpgaaGreatN58G
namespace Go.Proofs.YtmlmoaimjifpgaaGreat
open Go.Pv Go.Pv.Cd
set_option maxRecDepth 100000
set_option maxHeartbeats 4000000
set_option linter.unusedVariables false
theorem k9u (r e:Nat)(st:q5c):Defs P F.q08 [.ptr r 0,.ptr e 0] .returning st .returning st:=by
 refine H.q08.defs q5l rfl rfl ?_
 repeat' (simp -dsimp -implicitDefEqProofs [*])
theorem k9v (r e:Nat)(a b c:PV)(n m:Int)(st:q5c)(hr:q55 st r=some (.arr T.apiRoom [a,b,c]))(he:q55 st e=some (.arr T.apiErrno [.int m]))(hne:¬ r=e/\¬ e=r) :
  Defs P F.q08 [.ptr r 0,.ptr e 0] (.panicking (.iface T.apiErrno (.int n))) st .returning (q8u (q8u st r (.arr T.apiRoom [.nil,.nil,.nil])) e (.arr T.apiErrno [.int n])):=by
 refine H.q08.defs q5l rfl rfl ?_
 repeat' (simp -dsimp -implicitDefEqProofs [*])
 have h2:q55 (q8u st r (.arr T.apiRoom [.nil,.nil,.nil])) e=some (.arr T.apiErrno [.int m]):=by
  rw [k8g,if_neg hne.1,he]
 repeat' (simp -dsimp -implicitDefEqProofs [*])
def OwnP (l:List (List Note))(st:q5c)(e:PEnd)(s:q5c):Prop:=∃ b cap,q50 st b/\l.length<=cap/\cap<=9223372036854775807/\e=.ret (.own b 0 l.length cap)/\s=(b,k7v l (List.replicate (cap-l.length) .any))::st
theorem q7k (l:List (List Note))(hl:l.length<=24)(h0:l ≠ [])(st:q5c):PCalls P F.q1k [.list false (prR l) l.length] st (OwnP l st):=by
 have hpl:=k1y l
 have hll:¬ l.length=0:=fun e=>h0 (List.length_eq_zero_iff.1 e)
 refine H.q1k.view q5l rfl rfl ?_
 repeat' (first 
  | (with_reducible refine Lit.imm ?_)
  | ((with_reducible refine Grow.intro ?_ fun b cap hb hc1 hc2=>?_); omega) <;> (try simp -dsimp -implicitDefEqProofs [*] at hb)
  | (with_reducible refine And.intro (fun h=>?_) ?_) <;> (try (exfalso; omega))
  | (simp -dsimp -implicitDefEqProofs [*]))
 ·exact absurd (congrArg List.length ‹prR l=[]›) (by rw [hpl]; exact hll)
 ·exact .same ⟨_,_,hb,hc1,hc2,rfl,rfl⟩
theorem Panics.le {P:Program}{g:FuncId}{ps:List PV}{st st':q5c}{p:PV}(h:Panics P g ps st p)(hle:StLe st st'):PCalls P g ps st' fun e s=>e=.panic p/\s=st:=PCalls.le hle h
def k3y:List PV:=[.list false [] 0,.list false [] 0,.list false [] 0]
theorem k0o:PLe (.agg [.nil,.nil,.nil]) (.agg k3y):=PLeV.aggs ⟨.nil1,.nil1,.nil1,trivial⟩
def y46 (r:PR Note)(m:Mv Note):List PV:=match r.act q6v q5s m with
 | .inl x=>q74 x
 | .inr _=>k3y
def y47 (r:PR Note)(m:Mv Note):Int:=match r.act q6v q5s m with
 | .inl _=>0
 | .inr e=>e
theorem y0y {r:PR Note}{n:Nat}{U:List Note}(h:InR r n U)(hn:1<=n/\n<=24)(hU:U.length<=1000)(hq:r.q.length<=3000)(m:Mv Note)(hk:m.kind=1)(e:Int)
  (t:∀ pb cap cb C st,Panics P F.q02 [.ptr cb 0,.agg (mvE m)] (mS r C cap cb pb st) (.iface T.apiErrno (.int e))) (st:q5c):Rets P F.q0l [.agg (q74 r),.agg (mvE m)] st (.tuple [.agg k3y,.int e]):=by
 have c:=fun st=>q7j h hn hU (by omega) st
 have hlen:=h.len
 have cl:=fun st=>q7k r.peers (by omega) (by intro e; rw [e] at hlen; simp at hlen; omega) st
 unfold q74 mS at *
 clear hU hq h
 generalize r.peers=peers at *
 generalize r.q.map q7m=Q at *
 subst hlen
 refine H.q0l.view q5l rfl rfl ?_
 repeat' (first 
  | (with_reducible refine Fresh.intro fun b hb=>?_) <;> (try simp -dsimp -implicitDefEqProofs [*] at hb)
  | (with_reducible refine Rets.xcall (c _) ?_)
  | (simp -dsimp -implicitDefEqProofs [H.q08.enters, *]))
 refine q5h (cl _) fun e' s hs=>?_
 obtain⟨pb,cap,hpb,hc1,hc2,rfl,rfl⟩:=hs
 rw [q5v]
 simp only [q7d] at hpb
 clear cl c
 repeat' (simp -dsimp -implicitDefEqProofs [*])
 refine q5h (Panics.le (t pb cap _ (List.replicate (cap-peers.length) .any) _) (StLe.swap (by simp [*]))) fun e' s hs=>?_
 obtain⟨rfl,rfl⟩:=hs
 repeat' (simp -dsimp -implicitDefEqProofs [*])
 refine Defs.xdef (k9v _ _ .nil .nil .nil _ 0 _ (by simp [*]) (by simp [*]) (by simp [*])) ?_
 repeat' (simp -dsimp -implicitDefEqProofs [q8v, *])
 exact RetView.sees (SeesV.le (q:=.tuple [.agg k3y,.int e]) (PLeV.tuple2 k0o (.refl _))) (RetView.drop (st':=st) q5m ⟨rfl,rfl⟩)
theorem y70 {r r2:PR Note}{n:Nat}{U:List Note}(h:InR r n U)(hn:1<=n/\n<=24)(hU:U.length<=1000)(hq:r.q.length<=3000)(m:Mv Note)(hk:m.kind=1)(hr2:r2.peers.length=n)
  (t:∀ pb cap cb C st,n<=cap/\cap<=9223372036854775807->q50 st cb->q50 st pb->(¬ cb=pb/\¬ pb=cb)->Does P F.q02 [.ptr cb 0,.agg (mvE m)] (mS r C cap cb pb st) (.tuple []) (mS r2 C cap cb pb st)) (st:q5c) :
  Rets P F.q0l [.agg (q74 r),.agg (mvE m)] st (.tuple [.agg (q74 r2),.int 0]):=by
 have c:=fun st=>q7j h hn hU (by omega) st
 have hlen:=h.len
 have cl:=fun st=>q7k r.peers (by omega) (by intro e; rw [e] at hlen; simp at hlen; omega) st
 unfold q74 mS at *
 rw [hr2] at t ⊢
 rw [hlen] at t
 clear hU hq h
 generalize r.peers=peers at *
 generalize r.q.map q7m=Q at *
 generalize r2.peers=peers2 at *
 generalize r2.q.map q7m=Q2 at *
 subst hlen
 refine H.q0l.view q5l rfl rfl ?_
 repeat' (first 
  | (with_reducible refine Fresh.intro fun b hb=>?_) <;> (try simp -dsimp -implicitDefEqProofs [*] at hb)
  | (with_reducible refine Rets.xcall (c _) ?_)
  | (simp -dsimp -implicitDefEqProofs [H.q08.enters, *]))
 refine q5h (cl _) fun e' s hs=>?_
 obtain⟨pb,cap,hpb,hc1,hc2,rfl,rfl⟩:=hs
 rw [q5v]
 simp only [q7d] at hpb
 clear cl c
 repeat' (simp -dsimp -implicitDefEqProofs [*])
 refine q5h (Does.le (t pb cap _ (List.replicate (cap-peers.length) .any) _ ⟨hc1,hc2⟩ (by simp [*]) (by simp [*]) (by simp [*])) (StLe.swap (by simp [*]))) fun e' s hs=>?_
 obtain⟨rfl,rfl⟩:=hs
 clear t
 have hpl:=k1y peers2
 repeat' (simp -dsimp -implicitDefEqProofs [*])
 refine Defs.xdef (k9u _ _ _) ?_
 repeat' (simp -dsimp -implicitDefEqProofs [q8v, *])
 refine RetView.fresh1 (by simp [*]) ?_
 have hfr:Frz pb (k7v peers2 (List.replicate (cap-peers.length) .any)) (.own pb 0 peers.length cap) (.list false (prR peers2) peers.length):=by
  have:=Frz.own (b:=pb) (o:=k7v peers2 (List.replicate (cap-peers.length) .any)) T.apiPeer (prR peers2++List.replicate (cap-peers.length) .any) 0 peers.length cap 1 rfl hc1 hc2
  rw [List.drop_zero,Nat.mul_one,List.take_left' (by rw [hpl,hr2])] at this
  exact this
 refine RetView.freeze (.tuple [.agg [.list false (prR peers2) peers.length,Pk.lst false Q2,.list false [] 0],.int 0]) (by simp [*]) (.tuple (.cons (.agg (.cons hfr (.cons (.refl _) (.cons (.refl _) .nil)))) (.cons (.refl _) .nil))) ?_
 exact RetView.drop (st':=st) q5m ⟨rfl,rfl⟩
theorem y71 {r:PR Note}{n:Nat}{U:List Note}(h:InR r n U)(hn:1<=n/\n<=24)(hU:U.length<=1000)(hq:r.q.length<=3000)(m:Mv Note)(hk:m.kind=2)(e:Int)
  (t:∀ pb cap cb C st,Panics P F.q1h [.ptr cb 0,.agg (mvE m)] (mS r C cap cb pb st) (.iface T.apiErrno (.int e))) (st:q5c):Rets P F.q0l [.agg (q74 r),.agg (mvE m)] st (.tuple [.agg k3y,.int e]):=by
 have c:=fun st=>q7j h hn hU (by omega) st
 have hlen:=h.len
 have cl:=fun st=>q7k r.peers (by omega) (by intro e; rw [e] at hlen; simp at hlen; omega) st
 unfold q74 mS at *
 clear hU hq h
 generalize r.peers=peers at *
 generalize r.q.map q7m=Q at *
 subst hlen
 refine H.q0l.view q5l rfl rfl ?_
 repeat' (first 
  | (with_reducible refine Fresh.intro fun b hb=>?_) <;> (try simp -dsimp -implicitDefEqProofs [*] at hb)
  | (with_reducible refine Rets.xcall (c _) ?_)
  | (simp -dsimp -implicitDefEqProofs [H.q08.enters, *]))
 refine q5h (cl _) fun e' s hs=>?_
 obtain⟨pb,cap,hpb,hc1,hc2,rfl,rfl⟩:=hs
 rw [q5v]
 simp only [q7d] at hpb
 clear cl c
 repeat' (simp -dsimp -implicitDefEqProofs [*])
 refine q5h (Panics.le (t pb cap _ (List.replicate (cap-peers.length) .any) _) (StLe.swap (by simp [*]))) fun e' s hs=>?_
 obtain⟨rfl,rfl⟩:=hs
 repeat' (simp -dsimp -implicitDefEqProofs [*])
 refine Defs.xdef (k9v _ _ .nil .nil .nil _ 0 _ (by simp [*]) (by simp [*]) (by simp [*])) ?_
 repeat' (simp -dsimp -implicitDefEqProofs [q8v, *])
 exact RetView.sees (SeesV.le (q:=.tuple [.agg k3y,.int e]) (PLeV.tuple2 k0o (.refl _))) (RetView.drop (st':=st) q5m ⟨rfl,rfl⟩)
theorem y72 {r r2:PR Note}{n:Nat}{U:List Note}(h:InR r n U)(hn:1<=n/\n<=24)(hU:U.length<=1000)(hq:r.q.length<=3000)(m:Mv Note)(hk:m.kind=2)(hr2:r2.peers.length=n)
  (t:∀ pb cap cb C st,n<=cap/\cap<=9223372036854775807->q50 st cb->q50 st pb->(¬ cb=pb/\¬ pb=cb)->Does P F.q1h [.ptr cb 0,.agg (mvE m)] (mS r C cap cb pb st) (.tuple []) (mS r2 C cap cb pb st)) (st:q5c) :
  Rets P F.q0l [.agg (q74 r),.agg (mvE m)] st (.tuple [.agg (q74 r2),.int 0]):=by
 have c:=fun st=>q7j h hn hU (by omega) st
 have hlen:=h.len
 have cl:=fun st=>q7k r.peers (by omega) (by intro e; rw [e] at hlen; simp at hlen; omega) st
 unfold q74 mS at *
 rw [hr2] at t ⊢
 rw [hlen] at t
 clear hU hq h
 generalize r.peers=peers at *
 generalize r.q.map q7m=Q at *
 generalize r2.peers=peers2 at *
 generalize r2.q.map q7m=Q2 at *
 subst hlen
 refine H.q0l.view q5l rfl rfl ?_
 repeat' (first 
  | (with_reducible refine Fresh.intro fun b hb=>?_) <;> (try simp -dsimp -implicitDefEqProofs [*] at hb)
  | (with_reducible refine Rets.xcall (c _) ?_)
  | (simp -dsimp -implicitDefEqProofs [H.q08.enters, *]))
 refine q5h (cl _) fun e' s hs=>?_
 obtain⟨pb,cap,hpb,hc1,hc2,rfl,rfl⟩:=hs
 rw [q5v]
 simp only [q7d] at hpb
 clear cl c
 repeat' (simp -dsimp -implicitDefEqProofs [*])
 refine q5h (Does.le (t pb cap _ (List.replicate (cap-peers.length) .any) _ ⟨hc1,hc2⟩ (by simp [*]) (by simp [*]) (by simp [*])) (StLe.swap (by simp [*]))) fun e' s hs=>?_
 obtain⟨rfl,rfl⟩:=hs
 clear t
 have hpl:=k1y peers2
 repeat' (simp -dsimp -implicitDefEqProofs [*])
 refine Defs.xdef (k9u _ _ _) ?_
 repeat' (simp -dsimp -implicitDefEqProofs [q8v, *])
 refine RetView.fresh1 (by simp [*]) ?_
 have hfr:Frz pb (k7v peers2 (List.replicate (cap-peers.length) .any)) (.own pb 0 peers.length cap) (.list false (prR peers2) peers.length):=by
  have:=Frz.own (b:=pb) (o:=k7v peers2 (List.replicate (cap-peers.length) .any)) T.apiPeer (prR peers2++List.replicate (cap-peers.length) .any) 0 peers.length cap 1 rfl hc1 hc2
  rw [List.drop_zero,Nat.mul_one,List.take_left' (by rw [hpl,hr2])] at this
  exact this
 refine RetView.freeze (.tuple [.agg [.list false (prR peers2) peers.length,Pk.lst false Q2,.list false [] 0],.int 0]) (by simp [*]) (.tuple (.cons (.agg (.cons hfr (.cons (.refl _) (.cons (.refl _) .nil)))) (.cons (.refl _) .nil))) ?_
 exact RetView.drop (st':=st) q5m ⟨rfl,rfl⟩
theorem y73 {r:PR Note}{n:Nat}{U:List Note}(h:InR r n U)(hn:1<=n/\n<=24)(hU:U.length<=1000)(hq:r.q.length<=3000)(m:Mv Note)(hk:m.kind=3)(e:Int)
  (t:∀ pb cap cb C st,Panics P F.q03 [.ptr cb 0,.agg (mvE m)] (mS r C cap cb pb st) (.iface T.apiErrno (.int e))) (st:q5c):Rets P F.q0l [.agg (q74 r),.agg (mvE m)] st (.tuple [.agg k3y,.int e]):=by
 have c:=fun st=>q7j h hn hU (by omega) st
 have hlen:=h.len
 have cl:=fun st=>q7k r.peers (by omega) (by intro e; rw [e] at hlen; simp at hlen; omega) st
 unfold q74 mS at *
 clear hU hq h
 generalize r.peers=peers at *
 generalize r.q.map q7m=Q at *
 subst hlen
 refine H.q0l.view q5l rfl rfl ?_
 repeat' (first 
  | (with_reducible refine Fresh.intro fun b hb=>?_) <;> (try simp -dsimp -implicitDefEqProofs [*] at hb)
  | (with_reducible refine Rets.xcall (c _) ?_)
  | (simp -dsimp -implicitDefEqProofs [H.q08.enters, *]))
 refine q5h (cl _) fun e' s hs=>?_
 obtain⟨pb,cap,hpb,hc1,hc2,rfl,rfl⟩:=hs
 rw [q5v]
 simp only [q7d] at hpb
 clear cl c
 repeat' (simp -dsimp -implicitDefEqProofs [*])
 refine q5h (Panics.le (t pb cap _ (List.replicate (cap-peers.length) .any) _) (StLe.swap (by simp [*]))) fun e' s hs=>?_
 obtain⟨rfl,rfl⟩:=hs
 repeat' (simp -dsimp -implicitDefEqProofs [*])
 refine Defs.xdef (k9v _ _ .nil .nil .nil _ 0 _ (by simp [*]) (by simp [*]) (by simp [*])) ?_
 repeat' (simp -dsimp -implicitDefEqProofs [q8v, *])
 exact RetView.sees (SeesV.le (q:=.tuple [.agg k3y,.int e]) (PLeV.tuple2 k0o (.refl _))) (RetView.drop (st':=st) q5m ⟨rfl,rfl⟩)
theorem y74 {r r2:PR Note}{n:Nat}{U:List Note}(h:InR r n U)(hn:1<=n/\n<=24)(hU:U.length<=1000)(hq:r.q.length<=3000)(m:Mv Note)(hk:m.kind=3)(hr2:r2.peers.length=n)
  (t:∀ pb cap cb C st,n<=cap/\cap<=9223372036854775807->q50 st cb->q50 st pb->(¬ cb=pb/\¬ pb=cb)->Does P F.q03 [.ptr cb 0,.agg (mvE m)] (mS r C cap cb pb st) (.tuple []) (mS r2 C cap cb pb st)) (st:q5c) :
  Rets P F.q0l [.agg (q74 r),.agg (mvE m)] st (.tuple [.agg (q74 r2),.int 0]):=by
 have c:=fun st=>q7j h hn hU (by omega) st
 have hlen:=h.len
 have cl:=fun st=>q7k r.peers (by omega) (by intro e; rw [e] at hlen; simp at hlen; omega) st
 unfold q74 mS at *
 rw [hr2] at t ⊢
 rw [hlen] at t
 clear hU hq h
 generalize r.peers=peers at *
 generalize r.q.map q7m=Q at *
 generalize r2.peers=peers2 at *
 generalize r2.q.map q7m=Q2 at *
 subst hlen
 refine H.q0l.view q5l rfl rfl ?_
 repeat' (first 
  | (with_reducible refine Fresh.intro fun b hb=>?_) <;> (try simp -dsimp -implicitDefEqProofs [*] at hb)
  | (with_reducible refine Rets.xcall (c _) ?_)
  | (simp -dsimp -implicitDefEqProofs [H.q08.enters, *]))
 refine q5h (cl _) fun e' s hs=>?_
 obtain⟨pb,cap,hpb,hc1,hc2,rfl,rfl⟩:=hs
 rw [q5v]
 simp only [q7d] at hpb
 clear cl c
 repeat' (simp -dsimp -implicitDefEqProofs [*])
 refine q5h (Does.le (t pb cap _ (List.replicate (cap-peers.length) .any) _ ⟨hc1,hc2⟩ (by simp [*]) (by simp [*]) (by simp [*])) (StLe.swap (by simp [*]))) fun e' s hs=>?_
 obtain⟨rfl,rfl⟩:=hs
 clear t
 have hpl:=k1y peers2
 repeat' (simp -dsimp -implicitDefEqProofs [*])
 refine Defs.xdef (k9u _ _ _) ?_
 repeat' (simp -dsimp -implicitDefEqProofs [q8v, *])
 refine RetView.fresh1 (by simp [*]) ?_
 have hfr:Frz pb (k7v peers2 (List.replicate (cap-peers.length) .any)) (.own pb 0 peers.length cap) (.list false (prR peers2) peers.length):=by
  have:=Frz.own (b:=pb) (o:=k7v peers2 (List.replicate (cap-peers.length) .any)) T.apiPeer (prR peers2++List.replicate (cap-peers.length) .any) 0 peers.length cap 1 rfl hc1 hc2
  rw [List.drop_zero,Nat.mul_one,List.take_left' (by rw [hpl,hr2])] at this
  exact this
 refine RetView.freeze (.tuple [.agg [.list false (prR peers2) peers.length,Pk.lst false Q2,.list false [] 0],.int 0]) (by simp [*]) (.tuple (.cons (.agg (.cons hfr (.cons (.refl _) (.cons (.refl _) .nil)))) (.cons (.refl _) .nil))) ?_
 exact RetView.drop (st':=st) q5m ⟨rfl,rfl⟩
theorem y75 {r:PR Note}{n:Nat}{U:List Note}(h:InR r n U)(hn:1<=n/\n<=24)(hU:U.length<=1000)(hq:r.q.length<=3000)(m:Mv Note)(hk:m.kind=4)(e:Int)
  (t:∀ pb cap cb C st,Panics P F.q1i [.ptr cb 0,.agg (mvE m)] (mS r C cap cb pb st) (.iface T.apiErrno (.int e))) (st:q5c):Rets P F.q0l [.agg (q74 r),.agg (mvE m)] st (.tuple [.agg k3y,.int e]):=by
 have c:=fun st=>q7j h hn hU (by omega) st
 have hlen:=h.len
 have cl:=fun st=>q7k r.peers (by omega) (by intro e; rw [e] at hlen; simp at hlen; omega) st
 unfold q74 mS at *
 clear hU hq h
 generalize r.peers=peers at *
 generalize r.q.map q7m=Q at *
 subst hlen
 refine H.q0l.view q5l rfl rfl ?_
 repeat' (first 
  | (with_reducible refine Fresh.intro fun b hb=>?_) <;> (try simp -dsimp -implicitDefEqProofs [*] at hb)
  | (with_reducible refine Rets.xcall (c _) ?_)
  | (simp -dsimp -implicitDefEqProofs [H.q08.enters, *]))
 refine q5h (cl _) fun e' s hs=>?_
 obtain⟨pb,cap,hpb,hc1,hc2,rfl,rfl⟩:=hs
 rw [q5v]
 simp only [q7d] at hpb
 clear cl c
 repeat' (simp -dsimp -implicitDefEqProofs [*])
 refine q5h (Panics.le (t pb cap _ (List.replicate (cap-peers.length) .any) _) (StLe.swap (by simp [*]))) fun e' s hs=>?_
 obtain⟨rfl,rfl⟩:=hs
 repeat' (simp -dsimp -implicitDefEqProofs [*])
 refine Defs.xdef (k9v _ _ .nil .nil .nil _ 0 _ (by simp [*]) (by simp [*]) (by simp [*])) ?_
 repeat' (simp -dsimp -implicitDefEqProofs [q8v, *])
 exact RetView.sees (SeesV.le (q:=.tuple [.agg k3y,.int e]) (PLeV.tuple2 k0o (.refl _))) (RetView.drop (st':=st) q5m ⟨rfl,rfl⟩)
theorem y76 {r r2:PR Note}{n:Nat}{U:List Note}(h:InR r n U)(hn:1<=n/\n<=24)(hU:U.length<=1000)(hq:r.q.length<=3000)(m:Mv Note)(hk:m.kind=4)(hr2:r2.peers.length=n)
  (t:∀ pb cap cb C st,n<=cap/\cap<=9223372036854775807->q50 st cb->q50 st pb->(¬ cb=pb/\¬ pb=cb)->Does P F.q1i [.ptr cb 0,.agg (mvE m)] (mS r C cap cb pb st) (.tuple []) (mS r2 C cap cb pb st)) (st:q5c) :
  Rets P F.q0l [.agg (q74 r),.agg (mvE m)] st (.tuple [.agg (q74 r2),.int 0]):=by
 have c:=fun st=>q7j h hn hU (by omega) st
 have hlen:=h.len
 have cl:=fun st=>q7k r.peers (by omega) (by intro e; rw [e] at hlen; simp at hlen; omega) st
 unfold q74 mS at *
 rw [hr2] at t ⊢
 rw [hlen] at t
 clear hU hq h
 generalize r.peers=peers at *
 generalize r.q.map q7m=Q at *
 generalize r2.peers=peers2 at *
 generalize r2.q.map q7m=Q2 at *
 subst hlen
 refine H.q0l.view q5l rfl rfl ?_
 repeat' (first 
  | (with_reducible refine Fresh.intro fun b hb=>?_) <;> (try simp -dsimp -implicitDefEqProofs [*] at hb)
  | (with_reducible refine Rets.xcall (c _) ?_)
  | (simp -dsimp -implicitDefEqProofs [H.q08.enters, *]))
 refine q5h (cl _) fun e' s hs=>?_
 obtain⟨pb,cap,hpb,hc1,hc2,rfl,rfl⟩:=hs
 rw [q5v]
 simp only [q7d] at hpb
 clear cl c
 repeat' (simp -dsimp -implicitDefEqProofs [*])
 refine q5h (Does.le (t pb cap _ (List.replicate (cap-peers.length) .any) _ ⟨hc1,hc2⟩ (by simp [*]) (by simp [*]) (by simp [*])) (StLe.swap (by simp [*]))) fun e' s hs=>?_
 obtain⟨rfl,rfl⟩:=hs
 clear t
 have hpl:=k1y peers2
 repeat' (simp -dsimp -implicitDefEqProofs [*])
 refine Defs.xdef (k9u _ _ _) ?_
 repeat' (simp -dsimp -implicitDefEqProofs [q8v, *])
 refine RetView.fresh1 (by simp [*]) ?_
 have hfr:Frz pb (k7v peers2 (List.replicate (cap-peers.length) .any)) (.own pb 0 peers.length cap) (.list false (prR peers2) peers.length):=by
  have:=Frz.own (b:=pb) (o:=k7v peers2 (List.replicate (cap-peers.length) .any)) T.apiPeer (prR peers2++List.replicate (cap-peers.length) .any) 0 peers.length cap 1 rfl hc1 hc2
  rw [List.drop_zero,Nat.mul_one,List.take_left' (by rw [hpl,hr2])] at this
  exact this
 refine RetView.freeze (.tuple [.agg [.list false (prR peers2) peers.length,Pk.lst false Q2,.list false [] 0],.int 0]) (by simp [*]) (.tuple (.cons (.agg (.cons hfr (.cons (.refl _) (.cons (.refl _) .nil)))) (.cons (.refl _) .nil))) ?_
 exact RetView.drop (st':=st) q5m ⟨rfl,rfl⟩
theorem y77 {r:PR Note}{n:Nat}{U:List Note}(h:InR r n U)(hn:1<=n/\n<=24)(hU:U.length<=1000)(hq:r.q.length<=3000)(m:Mv Note)(hk:m.kind=5)(e:Int)
  (t:∀ pb cap cb C st,Panics P F.q07 [.ptr cb 0,.agg (mvE m)] (mS r C cap cb pb st) (.iface T.apiErrno (.int e))) (st:q5c):Rets P F.q0l [.agg (q74 r),.agg (mvE m)] st (.tuple [.agg k3y,.int e]):=by
 have c:=fun st=>q7j h hn hU (by omega) st
 have hlen:=h.len
 have cl:=fun st=>q7k r.peers (by omega) (by intro e; rw [e] at hlen; simp at hlen; omega) st
 unfold q74 mS at *
 clear hU hq h
 generalize r.peers=peers at *
 generalize r.q.map q7m=Q at *
 subst hlen
 refine H.q0l.view q5l rfl rfl ?_
 repeat' (first 
  | (with_reducible refine Fresh.intro fun b hb=>?_) <;> (try simp -dsimp -implicitDefEqProofs [*] at hb)
  | (with_reducible refine Rets.xcall (c _) ?_)
  | (simp -dsimp -implicitDefEqProofs [H.q08.enters, *]))
 refine q5h (cl _) fun e' s hs=>?_
 obtain⟨pb,cap,hpb,hc1,hc2,rfl,rfl⟩:=hs
 rw [q5v]
 simp only [q7d] at hpb
 clear cl c
 repeat' (simp -dsimp -implicitDefEqProofs [*])
 refine q5h (Panics.le (t pb cap _ (List.replicate (cap-peers.length) .any) _) (StLe.swap (by simp [*]))) fun e' s hs=>?_
 obtain⟨rfl,rfl⟩:=hs
 repeat' (simp -dsimp -implicitDefEqProofs [*])
 refine Defs.xdef (k9v _ _ .nil .nil .nil _ 0 _ (by simp [*]) (by simp [*]) (by simp [*])) ?_
 repeat' (simp -dsimp -implicitDefEqProofs [q8v, *])
 exact RetView.sees (SeesV.le (q:=.tuple [.agg k3y,.int e]) (PLeV.tuple2 k0o (.refl _))) (RetView.drop (st':=st) q5m ⟨rfl,rfl⟩)
theorem y78 {r r2:PR Note}{n:Nat}{U:List Note}(h:InR r n U)(hn:1<=n/\n<=24)(hU:U.length<=1000)(hq:r.q.length<=3000)(m:Mv Note)(hk:m.kind=5)(hr2:r2.peers.length=n)
  (t:∀ pb cap cb C st,n<=cap/\cap<=9223372036854775807->q50 st cb->q50 st pb->(¬ cb=pb/\¬ pb=cb)->Does P F.q07 [.ptr cb 0,.agg (mvE m)] (mS r C cap cb pb st) (.tuple []) (mS r2 C cap cb pb st)) (st:q5c) :
  Rets P F.q0l [.agg (q74 r),.agg (mvE m)] st (.tuple [.agg (q74 r2),.int 0]):=by
 have c:=fun st=>q7j h hn hU (by omega) st
 have hlen:=h.len
 have cl:=fun st=>q7k r.peers (by omega) (by intro e; rw [e] at hlen; simp at hlen; omega) st
 unfold q74 mS at *
 rw [hr2] at t ⊢
 rw [hlen] at t
 clear hU hq h
 generalize r.peers=peers at *
 generalize r.q.map q7m=Q at *
 generalize r2.peers=peers2 at *
 generalize r2.q.map q7m=Q2 at *
 subst hlen
 refine H.q0l.view q5l rfl rfl ?_
 repeat' (first 
  | (with_reducible refine Fresh.intro fun b hb=>?_) <;> (try simp -dsimp -implicitDefEqProofs [*] at hb)
  | (with_reducible refine Rets.xcall (c _) ?_)
  | (simp -dsimp -implicitDefEqProofs [H.q08.enters, *]))
 refine q5h (cl _) fun e' s hs=>?_
 obtain⟨pb,cap,hpb,hc1,hc2,rfl,rfl⟩:=hs
 rw [q5v]
 simp only [q7d] at hpb
 clear cl c
 repeat' (simp -dsimp -implicitDefEqProofs [*])
 refine q5h (Does.le (t pb cap _ (List.replicate (cap-peers.length) .any) _ ⟨hc1,hc2⟩ (by simp [*]) (by simp [*]) (by simp [*])) (StLe.swap (by simp [*]))) fun e' s hs=>?_
 obtain⟨rfl,rfl⟩:=hs
 clear t
 have hpl:=k1y peers2
 repeat' (simp -dsimp -implicitDefEqProofs [*])
 refine Defs.xdef (k9u _ _ _) ?_
 repeat' (simp -dsimp -implicitDefEqProofs [q8v, *])
 refine RetView.fresh1 (by simp [*]) ?_
 have hfr:Frz pb (k7v peers2 (List.replicate (cap-peers.length) .any)) (.own pb 0 peers.length cap) (.list false (prR peers2) peers.length):=by
  have:=Frz.own (b:=pb) (o:=k7v peers2 (List.replicate (cap-peers.length) .any)) T.apiPeer (prR peers2++List.replicate (cap-peers.length) .any) 0 peers.length cap 1 rfl hc1 hc2
  rw [List.drop_zero,Nat.mul_one,List.take_left' (by rw [hpl,hr2])] at this
  exact this
 refine RetView.freeze (.tuple [.agg [.list false (prR peers2) peers.length,Pk.lst false Q2,.list false [] 0],.int 0]) (by simp [*]) (.tuple (.cons (.agg (.cons hfr (.cons (.refl _) (.cons (.refl _) .nil)))) (.cons (.refl _) .nil))) ?_
 exact RetView.drop (st':=st) q5m ⟨rfl,rfl⟩
theorem k8c {r:PR Note}{n:Nat}{U:List Note}(h:InR r n U)(hn:1<=n/\n<=24)(hU:U.length<=1000)(hq:r.q.length<=3000)(m:Mv Note)(st:q5c) :
  Rets P F.q0l [.agg (q74 r),.agg (mvE m)] st (.tuple [.agg (y46 r m),.int (y47 r m)]):=by
 have hlen:=h.len
 have nat:∀ (x:Int) (k:Nat),0<=x/\x<k->x=(x.toNat:Int):=fun x k hx=>by omega
 unfold y46 y47 PR.act
 by_cases k1:m.kind=1
 ·rw [if_pos k1]
  by_cases hp:0<=m.peer/\m.peer<r.peers.length
  ·rw [if_pos hp]
   by_cases hf:q5s m.note=true
   ·rw [if_pos hf]
    exact y70 h hn hU hq m k1 (by show (r.peers.set _ _).length=n; rw [List.length_set]; exact hlen) (fun pb cap cb C st hc h1 h2 h3=>y2r h hn.2 hU hq m m.peer.toNat (by omega) (by omega) hf C cap cb pb hc st h1 h2 h3) st
   ·rw [if_neg hf]
    exact y0y h hn hU hq m k1 580 (fun pb cap cb C st=>j84 m pb _ cap _ hp (by simpa using hf) cb _) st
  ·rw [if_neg hp]
   exact y0y h hn hU hq m k1 1 (fun pb cap cb C st=>j83 m pb _ cap _ hp cb _) st
 rw [if_neg k1]
 by_cases k2:m.kind=2
 ·rw [if_pos k2]
  by_cases hp:(0<=m.peer/\m.peer<r.peers.length)/\(0<=m.to/\m.to<r.peers.length)/\m.peer ≠ m.to
  ·rw [if_pos hp]
   exact y72 (r2:=r.send (r.all m.peer.toNat m.to.toNat)) h hn hU hq m k2 hlen (fun pb cap cb C st hc h1 h2 h3=>y2s h hn.2 hU hq m m.peer.toNat m.to.toNat (by omega) (by omega) (by omega) (by omega) (by omega) C cap cb pb hc st h1 h2 h3) st
  ·rw [if_neg hp]
   exact y71 h hn hU hq m k2 1 (fun pb cap cb C st=>y2t m pb _ cap _ hp cb _) st
 rw [if_neg k2]
 by_cases k3:m.kind=3
 ·rw [if_pos k3]
  by_cases hp:0<=m.at'/\m.at'<r.q.length
  ·rw [if_pos hp]
   exact y74 h hn hU hq m k3 (h.deliver cmpN_ord _).len (fun pb cap cb C st hc h1 h2 h3=>z9v h hn.2 hU hq m m.at'.toNat (by omega) (by omega) C cap cb pb hc st h1 h2 h3) st
  ·rw [if_neg hp]
   exact y73 h hn hU hq m k3 1 (fun pb cap cb C st=>z9u h hn.2 hq m hp C cap cb pb st) st
 rw [if_neg k3]
 by_cases k4:m.kind=4
 ·rw [if_pos k4]
  by_cases hp:0<=m.at'/\m.at'<r.q.length
  ·rw [if_pos hp]
   exact y76 (r2:=r.drop m.at'.toNat) h hn hU hq m k4 hlen (fun pb cap cb C st hc h1 h2 h3=>j85 h hn.2 hq m m.at'.toNat (by omega) (by omega) C cap cb pb st h1 h2 h3) st
  ·rw [if_neg hp]
   exact y75 h hn hU hq m k4 1 (fun pb cap cb C st=>j86 h hn.2 hq m hp C cap cb pb st) st
 rw [if_neg k4]
 by_cases k5:m.kind=5
 ·rw [if_pos k5]
  by_cases hp:0<=m.at'/\m.at'<r.q.length
  ·rw [if_pos hp]
   exact y78 h hn hU hq m k5 (h.rep _).len (fun pb cap cb C st hc h1 h2 h3=>j27 h hn.2 hq m m.at'.toNat (by omega) (by omega) C cap cb pb st h1 h2 h3) st
  ·rw [if_neg hp]
   exact y77 h hn hU hq m k5 1 (fun pb cap cb C st=>j28 h hn.2 hq m hp C cap cb pb st) st
 rw [if_neg k5]
 have c:=fun st=>q7j h hn hU (by omega) st
 unfold q74 at *
 clear hU hq h
 generalize r.peers=peers at *
 generalize r.q.map q7m=Q at *
 subst hlen
 refine H.q0l.view q5l rfl rfl ?_
 repeat' (first 
  | (with_reducible refine Fresh.intro fun b hb=>?_) <;> (try simp -dsimp -implicitDefEqProofs [*] at hb)
  | (with_reducible refine Rets.xcall (c _) ?_)
  | (simp -dsimp -implicitDefEqProofs [H.q08.enters, *]))
 exact RetView.sees (SeesV.le (q:=.tuple [.agg k3y,.int 1]) (PLeV.tuple2 k0o (.refl _))) (RetView.drop (st':=st) q5m ⟨rfl,rfl⟩)
open Go.Pv Go.Pv.Cd
set_option maxRecDepth 100000
set_option maxHeartbeats 4000000
set_option linter.unusedVariables false
theorem z9w (st:q5c):Rets P F.q4n [] st (k7u []):=by
 refine H.q4n.view q5l rfl rfl ?_
 repeat' (first 
  | (with_reducible refine Fresh.intro fun b hb=>?_) <;> (try simp -dsimp -implicitDefEqProofs [*] at hb)
  | (simp -dsimp -implicitDefEqProofs [*]))
 exact RetView.sees (SeesV.le (q:=k7u []) k8b) (RetView.drop (st':=st) q5m ⟨rfl,rfl⟩)
def y2u (n:Nat):PR Note:=⟨List.replicate n [],[],[]⟩
theorem newR_in {n:Nat}:InR (y2u n) n []:=
 ⟨List.length_replicate ..,fun l hl=>by rw [(List.mem_replicate.1 hl).2]; exact .nil,fun l hl y hy=>by rw [(List.mem_replicate.1 hl).2] at hy; exact hy,fun p hp=>absurd hp List.not_mem_nil,rfl⟩
theorem j6a:∀ n:Nat,PsLe (List.replicate n PV.nil) (prR (List.replicate n ([]:List Note)))
 | 0=>trivial
 | n+1=>⟨.nil1,j6a n⟩
theorem y79 (n:Int)(hn:¬ (1<=n/\n<=24))(st:q5c):Rets P F.q27 [.int n] st (.tuple [.agg k3y,.int 1]):=by
 refine H.q27.view q5l rfl rfl ?_
 by_cases h1:n<1
 ·clear hn
  repeat' (first 
   | (with_reducible refine Fresh.intro fun b hb=>?_) <;> (try simp -dsimp -implicitDefEqProofs [*] at hb)
   | (simp -dsimp -implicitDefEqProofs [*]))
  exact RetView.sees (SeesV.le (q:=.tuple [.agg k3y,.int 1]) (PLeV.tuple2 k0o (.refl _))) (RetView.drop (st':=st) q5m ⟨rfl,rfl⟩)
 ·have h2:24<n:=by omega
  clear hn
  repeat' (first 
   | (with_reducible refine Fresh.intro fun b hb=>?_) <;> (try simp -dsimp -implicitDefEqProofs [*] at hb)
   | (simp -dsimp -implicitDefEqProofs [*]))
  exact RetView.sees (SeesV.le (q:=.tuple [.agg k3y,.int 1]) (PLeV.tuple2 k0o (.refl _))) (RetView.drop (st':=st) q5m ⟨rfl,rfl⟩)
theorem y8a (n:Nat)(hn:1<=n/\n<=24)(st:q5c):Rets P F.q27 [.int n] st (.tuple [.agg (q74 (y2u n)),.int 0]):=by
 have h1:¬ (n:Int)<1:=by omega
 have h2:¬ (24:Int)<n:=by omega
 have h3:(n:Int)*24<=281474976710656:=by omega
 have h4:(n:Int)<=9223372036854775807:=by omega
 refine H.q27.view q5l rfl rfl ?_
 repeat' (first 
  | (with_reducible refine Fresh.intro fun b hb=>?_) <;> (try simp -dsimp -implicitDefEqProofs [*] at hb)
  | (with_reducible refine q6f (fun _=>z9w _) ?_)
  | (with_reducible refine DrawLate.intro [] ?_)
  | (with_reducible refine q59 ?_ ?_)
  | (with_reducible exact Cls.self _ _)
  | (with_reducible refine q6p ?_ ?_)
  | (simp -dsimp -implicitDefEqProofs [*]))
 have hfr:Frz b (.arr T.apiPeer (List.replicate n .nil)) (.own b 0 n n) (.list false (List.replicate n .nil) n):=by
  have:=Frz.own (b:=b) (o:=.arr T.apiPeer (List.replicate n .nil)) T.apiPeer (List.replicate n .nil) 0 n n 1 rfl (Nat.le_refl _) (by omega)
  rw [List.drop_zero,Nat.mul_one,List.take_of_length_le (by simp)] at this
  exact this
 refine RetView.freeze (.tuple [.agg [.list false (List.replicate n .nil) n,Pk.lst false [],.list false [] 0],.int 0]) (by simp [*]) (.tuple (.cons (.agg (.cons hfr (.cons (.refl _) (.cons (.refl _) .nil)))) (.cons (.refl _) .nil))) ?_
 have e:q74 (y2u n)=[.list false (prR (List.replicate n [])) n,Pk.lst false [],.list false [] 0]:=by
  unfold q74 y2u
  simp
 rw [e]
 exact RetView.sees (SeesV.le (q:=.tuple [.agg [.list false (prR (List.replicate n [])) n,Pk.lst false [],.list false [] 0],.int 0]) (PLeV.tuple2 (PLeV.aggs ⟨PLe.lists (j6a n),.refl _,.refl _,trivial⟩) (.refl _))) (RetView.drop (st':=st) q5m ⟨rfl,rfl⟩)
open Go.Pv Go.Pv.Cd
set_option maxRecDepth 100000
set_option maxHeartbeats 8000000
def k1z (L:List (List (BitVec 8))):List PV:=L.map (q54 false)
theorem j1o (L:List (List (BitVec 8))):(k1z L).length=L.length*1:=by simp [k1z]
@[simp] theorem k50 (L:List (List (BitVec 8))):(k1z L).length=L.length:=by simp [k1z]
theorem j1p (L M:List (List (BitVec 8))):k1z (L++M)=k1z L++k1z M:=List.map_append
theorem k7k (l:List Note)(h:Rise q6v okN l)(hl:l.length<=1000)(st:q5c) :
  Rets P F.q1x [.agg [Note.lst false l]] st (.tuple [.list false (k1z (l.map msg)) l.length,.int 0]):=by
 have hv:=fun st=>k0d l (by omega) true ⟨fun _=>⟨h,by omega⟩,fun _=>rfl⟩ st
 have hok:=Hid.mk h.1
 clear h
 have hrl:=Note.row_len l
 refine H.q1x.view q5l rfl rfl ?_
 repeat' (first 
  | (with_reducible refine Fresh.intro fun b hb=>?_) <;> (try simp -dsimp -implicitDefEqProofs [*] at hb)
  | (with_reducible refine Rets.xcall (hv _) ?_)
  | (simp -dsimp -implicitDefEqProofs [*]))
 refine q5e (σ:=Nat × Option (Acc (List (BitVec 8)))) (fun x=>[(2,q7n x.2),(10,Note.lst false l),(11,.int l.length),(12,.int (x.1:Nat))]) (fun x=>q6c T.Luint8 st x.2) (fun x=>x.1<=l.length/\accOk k1z 1 st x.2/\q5u x.2=(l.take x.1).map msg) (fun x=>l.length-x.1) (0,none) ⟨Nat.zero_le _,trivial,rfl⟩ (by simp) q5m ?_
 rintro⟨i,o⟩ ⟨hi,ho,hol⟩
 simp only at hi ho hol
 have hw:=q5f (n:=i) (by omega)
 by_cases hil:i<l.length
 case neg=>
  obtain rfl:i=l.length:=by omega
  rw [List.take_length] at hol
  have kl:=Hid.mk hol
  clear hol
  repeat' (simp -dsimp -implicitDefEqProofs [*])
  refine RetView.accP2 rfl ho (.drop (st':=st) q5m ⟨?_,rfl⟩)
  rw [kl.out,List.length_map]
 have hsub:=Note.row_sub l i hil
 have hm:=fun st=>q9m l[i] (hok.out _ (List.getElem_mem hil)) st
 have hlen:(q5u o).length=i:=by rw [hol,List.length_map,List.length_take]; omega
 have hms:(k6b (msg l[i])).size<=140737488355328:=by
  rw [strL_size]
  have:=k6u (hok.out _ (List.getElem_mem hil))
  omega
 have nx:Hid (q5u o++[msg l[i]]=(l.take (i+1)).map msg):=⟨by rw [hol,List.take_succ_eq_append_getElem hil,List.map_append]; rfl⟩
 clear hol
 generalize l[i]=x at *
 repeat' (first 
  | (with_reducible refine Fresh.intro fun b hb=>?_) <;> (try simp -dsimp -implicitDefEqProofs [*] at hb)
  | (with_reducible refine Rets.xcall (hm _) ?_)
  | (with_reducible refine Lit.imm ?_)
  | (simp -dsimp -implicitDefEqProofs [k6w, *]))
 refine xappend_box j1o j1p o ho hb [msg x] rfl rfl (by omega) (by omega) fun o' ho' hl'=>?_
 have kl:=Hid.mk hl'
 clear hl'
 repeat' (simp -dsimp -implicitDefEqProofs [*])
 exact Next.intro (i+1,o') ⟨by simp only; omega,ho'.unbox,by rw [kl.out,nx.out]⟩ (by simp only; omega) (by simp) (StLe.box o' (accB_new hb).2)
end Go.Proofs.YtmlmoaimjifpgaaGreat
