/- Parties: Do. -/
import Derived.Test.YtmlmoaimjifpgaaGreatP58A
import Derived.Test.YtmlmoaimjifpgaaGreatLBx
import Derived.Test.YtmlmoaimjifpgaaGreatN58G
namespace Go.Proofs.YtmlmoaimjifpgaaGreat
open Go.Pv Go.Pv.Cd
set_option maxRecDepth 100000
set_option maxHeartbeats 4000000
set_option linter.unusedVariables false
theorem k9e (r e : Nat) (st : q43) : Defs P F.q05 [.ptr r 0, .ptr e 0] .returning st .returning st := by
 refine H.q05.defs q5d rfl rfl ?_
 repeat' (simp -dsimp -implicitDefEqProofs [*])
theorem k9f (r e : Nat) (a b c : PV) (n m : Int) (st : q43) (hr : q5p st r = some (.arr T.apiRoom [a, b, c])) (he : q5p st e = some (.arr T.apiErrno [.int m])) (hne : ¬ r = e ∧ ¬ e = r) :
  Defs P F.q05 [.ptr r 0, .ptr e 0] (.panicking (.iface T.apiErrno (.int n))) st .returning (q71 (q71 st r (.arr T.apiRoom [.nil, .nil, .nil])) e (.arr T.apiErrno [.int n])) := by
 refine H.q05.defs q5d rfl rfl ?_
 repeat' (simp -dsimp -implicitDefEqProofs [*])
 have h2 : q5p (q71 st r (.arr T.apiRoom [.nil, .nil, .nil])) e = some (.arr T.apiErrno [.int m]) := by
  rw [k7t, if_neg hne.1, he]
 repeat' (simp -dsimp -implicitDefEqProofs [*])
def OwnP (l : List (List Note)) (st : q43) (e : PEnd) (s : q43) : Prop := ∃ b cap, q5s st b ∧ l.length ≤ cap ∧ cap ≤ 9223372036854775807 ∧ e = .ret (.own b 0 l.length cap) ∧ s = (b, k7f l (List.replicate (cap - l.length) .any)) :: st
theorem q68 (l : List (List Note)) (hl : l.length ≤ 24) (h0 : l ≠ []) (st : q43) : PCalls P F.q1g [.list false (prR l) l.length] st (OwnP l st) := by
 have hpl := q62 l
 have hll : ¬ l.length = 0 := fun e => h0 (List.length_eq_zero_iff.1 e)
 refine H.q1g.view q5d rfl rfl ?_
 repeat' (first 
  | (with_reducible refine Lit.imm ?_)
  | ((with_reducible refine Grow.intro ?_ fun b cap hb hc1 hc2 => ?_); omega) <;> (try simp -dsimp -implicitDefEqProofs [*] at hb)
  | (with_reducible refine And.intro (fun h => ?_) ?_) <;> (try (exfalso; omega))
  | (simp -dsimp -implicitDefEqProofs [*]))
 ·exact absurd (congrArg List.length ‹prR l = []›) (by rw [hpl]; exact hll)
 ·exact .same ⟨_, _, hb, hc1, hc2, rfl, rfl⟩
theorem Panics.le {P : Program} {g : FuncId} {ps : List PV} {st st' : q43} {p : PV} (h : Panics P g ps st p) (hle : StLe st st') : PCalls P g ps st' fun e s => e = .panic p ∧ s = st := PCalls.le hle h
def k0x : List PV := [.list false [] 0, .list false [] 0, .list false [] 0]
theorem q99 : PLe (.agg [.nil, .nil, .nil]) (.agg k0x) := PLeV.aggs ⟨.nil1, .nil1, .nil1, trivial⟩
def z5w (r : PR Note) (m : Mv Note) : List PV := match r.act q55 q5c m with
 | .inl x => q6l x
 | .inr _ => k0x
def z5x (r : PR Note) (m : Mv Note) : Int := match r.act q55 q5c m with
 | .inl _ => 0
 | .inr e => e
theorem j9g {r : PR Note} {n : Nat} {U : List Note} (h : InR r n U) (hn : 1 ≤ n ∧ n ≤ 24) (hU : U.length ≤ 1000) (hq : r.q.length ≤ 3000) (m : Mv Note) (hk : m.kind = 1) (e : Int)
  (t : ∀ pb cap cb C st, Panics P F.q0x [.ptr cb 0, .agg (mvE m)] (mS r C cap cb pb st) (.iface T.apiErrno (.int e))) (st : q43) : Rets P F.q0e [.agg (q6l r), .agg (mvE m)] st (.tuple [.agg k0x, .int e]) := by
 have c := fun st => q6t h hn hU (by omega) st
 have hlen := h.len
 have cl := fun st => q68 r.peers (by omega) (by intro e; rw [e] at hlen; simp at hlen; omega) st
 unfold q6l mS at *
 clear hU hq h
 generalize r.peers = peers at *
 generalize r.q.map q6q = Q at *
 subst hlen
 refine H.q0e.view q5d rfl rfl ?_
 repeat' (first 
  | (with_reducible refine Fresh.intro fun b hb => ?_) <;> (try simp -dsimp -implicitDefEqProofs [*] at hb)
  | (with_reducible refine Rets.xcall (c _) ?_)
  | (simp -dsimp -implicitDefEqProofs [H.q05.enters, *]))
 refine q48 (cl _) fun e' s hs => ?_
 obtain ⟨pb, cap, hpb, hc1, hc2, rfl, rfl⟩ := hs
 rw [q5l]
 simp only [q61] at hpb
 clear cl c
 repeat' (simp -dsimp -implicitDefEqProofs [*])
 refine q48 (Panics.le (t pb cap _ (List.replicate (cap - peers.length) .any) _) (StLe.swap (by simp [*]))) fun e' s hs => ?_
 obtain ⟨rfl, rfl⟩ := hs
 repeat' (simp -dsimp -implicitDefEqProofs [*])
 refine Defs.xdef (k9f _ _ .nil .nil .nil _ 0 _ (by simp [*]) (by simp [*]) (by simp [*])) ?_
 repeat' (simp -dsimp -implicitDefEqProofs [q8e, *])
 exact RetView.sees (SeesV.le (q := .tuple [.agg k0x, .int e]) (PLeV.tuple2 q99 (.refl _))) (RetView.drop (st' := st) q5k ⟨rfl, rfl⟩)
theorem y55 {r r2 : PR Note} {n : Nat} {U : List Note} (h : InR r n U) (hn : 1 ≤ n ∧ n ≤ 24) (hU : U.length ≤ 1000) (hq : r.q.length ≤ 3000) (m : Mv Note) (hk : m.kind = 1) (hr2 : r2.peers.length = n)
  (t : ∀ pb cap cb C st, n ≤ cap ∧ cap ≤ 9223372036854775807 → q5s st cb → q5s st pb → (¬ cb = pb ∧ ¬ pb = cb) → Does P F.q0x [.ptr cb 0, .agg (mvE m)] (mS r C cap cb pb st) (.tuple []) (mS r2 C cap cb pb st)) (st : q43) :
  Rets P F.q0e [.agg (q6l r), .agg (mvE m)] st (.tuple [.agg (q6l r2), .int 0]) := by
 have c := fun st => q6t h hn hU (by omega) st
 have hlen := h.len
 have cl := fun st => q68 r.peers (by omega) (by intro e; rw [e] at hlen; simp at hlen; omega) st
 unfold q6l mS at *
 rw [hr2] at t ⊢
 rw [hlen] at t
 clear hU hq h
 generalize r.peers = peers at *
 generalize r.q.map q6q = Q at *
 generalize r2.peers = peers2 at *
 generalize r2.q.map q6q = Q2 at *
 subst hlen
 refine H.q0e.view q5d rfl rfl ?_
 repeat' (first 
  | (with_reducible refine Fresh.intro fun b hb => ?_) <;> (try simp -dsimp -implicitDefEqProofs [*] at hb)
  | (with_reducible refine Rets.xcall (c _) ?_)
  | (simp -dsimp -implicitDefEqProofs [H.q05.enters, *]))
 refine q48 (cl _) fun e' s hs => ?_
 obtain ⟨pb, cap, hpb, hc1, hc2, rfl, rfl⟩ := hs
 rw [q5l]
 simp only [q61] at hpb
 clear cl c
 repeat' (simp -dsimp -implicitDefEqProofs [*])
 refine q48 (Does.le (t pb cap _ (List.replicate (cap - peers.length) .any) _ ⟨hc1, hc2⟩ (by simp [*]) (by simp [*]) (by simp [*])) (StLe.swap (by simp [*]))) fun e' s hs => ?_
 obtain ⟨rfl, rfl⟩ := hs
 clear t
 have hpl := q62 peers2
 repeat' (simp -dsimp -implicitDefEqProofs [*])
 refine Defs.xdef (k9e _ _ _) ?_
 repeat' (simp -dsimp -implicitDefEqProofs [q8e, *])
 refine RetView.fresh1 (by simp [*]) ?_
 have hfr : Frz pb (k7f peers2 (List.replicate (cap - peers.length) .any)) (.own pb 0 peers.length cap) (.list false (prR peers2) peers.length) := by
  have := Frz.own (b := pb) (o := k7f peers2 (List.replicate (cap - peers.length) .any)) T.apiPeer (prR peers2 ++ List.replicate (cap - peers.length) .any) 0 peers.length cap 1 rfl hc1 hc2
  rw [List.drop_zero, Nat.mul_one, List.take_left' (by rw [hpl, hr2])] at this
  exact this
 refine RetView.freeze (.tuple [.agg [.list false (prR peers2) peers.length, Pk.lst false Q2, .list false [] 0], .int 0]) (by simp [*]) (.tuple (.cons (.agg (.cons hfr (.cons (.refl _) (.cons (.refl _) .nil)))) (.cons (.refl _) .nil))) ?_
 exact RetView.drop (st' := st) q5k ⟨rfl, rfl⟩
theorem y56 {r : PR Note} {n : Nat} {U : List Note} (h : InR r n U) (hn : 1 ≤ n ∧ n ≤ 24) (hU : U.length ≤ 1000) (hq : r.q.length ≤ 3000) (m : Mv Note) (hk : m.kind = 2) (e : Int)
  (t : ∀ pb cap cb C st, Panics P F.q1d [.ptr cb 0, .agg (mvE m)] (mS r C cap cb pb st) (.iface T.apiErrno (.int e))) (st : q43) : Rets P F.q0e [.agg (q6l r), .agg (mvE m)] st (.tuple [.agg k0x, .int e]) := by
 have c := fun st => q6t h hn hU (by omega) st
 have hlen := h.len
 have cl := fun st => q68 r.peers (by omega) (by intro e; rw [e] at hlen; simp at hlen; omega) st
 unfold q6l mS at *
 clear hU hq h
 generalize r.peers = peers at *
 generalize r.q.map q6q = Q at *
 subst hlen
 refine H.q0e.view q5d rfl rfl ?_
 repeat' (first 
  | (with_reducible refine Fresh.intro fun b hb => ?_) <;> (try simp -dsimp -implicitDefEqProofs [*] at hb)
  | (with_reducible refine Rets.xcall (c _) ?_)
  | (simp -dsimp -implicitDefEqProofs [H.q05.enters, *]))
 refine q48 (cl _) fun e' s hs => ?_
 obtain ⟨pb, cap, hpb, hc1, hc2, rfl, rfl⟩ := hs
 rw [q5l]
 simp only [q61] at hpb
 clear cl c
 repeat' (simp -dsimp -implicitDefEqProofs [*])
 refine q48 (Panics.le (t pb cap _ (List.replicate (cap - peers.length) .any) _) (StLe.swap (by simp [*]))) fun e' s hs => ?_
 obtain ⟨rfl, rfl⟩ := hs
 repeat' (simp -dsimp -implicitDefEqProofs [*])
 refine Defs.xdef (k9f _ _ .nil .nil .nil _ 0 _ (by simp [*]) (by simp [*]) (by simp [*])) ?_
 repeat' (simp -dsimp -implicitDefEqProofs [q8e, *])
 exact RetView.sees (SeesV.le (q := .tuple [.agg k0x, .int e]) (PLeV.tuple2 q99 (.refl _))) (RetView.drop (st' := st) q5k ⟨rfl, rfl⟩)
theorem y57 {r r2 : PR Note} {n : Nat} {U : List Note} (h : InR r n U) (hn : 1 ≤ n ∧ n ≤ 24) (hU : U.length ≤ 1000) (hq : r.q.length ≤ 3000) (m : Mv Note) (hk : m.kind = 2) (hr2 : r2.peers.length = n)
  (t : ∀ pb cap cb C st, n ≤ cap ∧ cap ≤ 9223372036854775807 → q5s st cb → q5s st pb → (¬ cb = pb ∧ ¬ pb = cb) → Does P F.q1d [.ptr cb 0, .agg (mvE m)] (mS r C cap cb pb st) (.tuple []) (mS r2 C cap cb pb st)) (st : q43) :
  Rets P F.q0e [.agg (q6l r), .agg (mvE m)] st (.tuple [.agg (q6l r2), .int 0]) := by
 have c := fun st => q6t h hn hU (by omega) st
 have hlen := h.len
 have cl := fun st => q68 r.peers (by omega) (by intro e; rw [e] at hlen; simp at hlen; omega) st
 unfold q6l mS at *
 rw [hr2] at t ⊢
 rw [hlen] at t
 clear hU hq h
 generalize r.peers = peers at *
 generalize r.q.map q6q = Q at *
 generalize r2.peers = peers2 at *
 generalize r2.q.map q6q = Q2 at *
 subst hlen
 refine H.q0e.view q5d rfl rfl ?_
 repeat' (first 
  | (with_reducible refine Fresh.intro fun b hb => ?_) <;> (try simp -dsimp -implicitDefEqProofs [*] at hb)
  | (with_reducible refine Rets.xcall (c _) ?_)
  | (simp -dsimp -implicitDefEqProofs [H.q05.enters, *]))
 refine q48 (cl _) fun e' s hs => ?_
 obtain ⟨pb, cap, hpb, hc1, hc2, rfl, rfl⟩ := hs
 rw [q5l]
 simp only [q61] at hpb
 clear cl c
 repeat' (simp -dsimp -implicitDefEqProofs [*])
 refine q48 (Does.le (t pb cap _ (List.replicate (cap - peers.length) .any) _ ⟨hc1, hc2⟩ (by simp [*]) (by simp [*]) (by simp [*])) (StLe.swap (by simp [*]))) fun e' s hs => ?_
 obtain ⟨rfl, rfl⟩ := hs
 clear t
 have hpl := q62 peers2
 repeat' (simp -dsimp -implicitDefEqProofs [*])
 refine Defs.xdef (k9e _ _ _) ?_
 repeat' (simp -dsimp -implicitDefEqProofs [q8e, *])
 refine RetView.fresh1 (by simp [*]) ?_
 have hfr : Frz pb (k7f peers2 (List.replicate (cap - peers.length) .any)) (.own pb 0 peers.length cap) (.list false (prR peers2) peers.length) := by
  have := Frz.own (b := pb) (o := k7f peers2 (List.replicate (cap - peers.length) .any)) T.apiPeer (prR peers2 ++ List.replicate (cap - peers.length) .any) 0 peers.length cap 1 rfl hc1 hc2
  rw [List.drop_zero, Nat.mul_one, List.take_left' (by rw [hpl, hr2])] at this
  exact this
 refine RetView.freeze (.tuple [.agg [.list false (prR peers2) peers.length, Pk.lst false Q2, .list false [] 0], .int 0]) (by simp [*]) (.tuple (.cons (.agg (.cons hfr (.cons (.refl _) (.cons (.refl _) .nil)))) (.cons (.refl _) .nil))) ?_
 exact RetView.drop (st' := st) q5k ⟨rfl, rfl⟩
theorem y58 {r : PR Note} {n : Nat} {U : List Note} (h : InR r n U) (hn : 1 ≤ n ∧ n ≤ 24) (hU : U.length ≤ 1000) (hq : r.q.length ≤ 3000) (m : Mv Note) (hk : m.kind = 3) (e : Int)
  (t : ∀ pb cap cb C st, Panics P F.q0y [.ptr cb 0, .agg (mvE m)] (mS r C cap cb pb st) (.iface T.apiErrno (.int e))) (st : q43) : Rets P F.q0e [.agg (q6l r), .agg (mvE m)] st (.tuple [.agg k0x, .int e]) := by
 have c := fun st => q6t h hn hU (by omega) st
 have hlen := h.len
 have cl := fun st => q68 r.peers (by omega) (by intro e; rw [e] at hlen; simp at hlen; omega) st
 unfold q6l mS at *
 clear hU hq h
 generalize r.peers = peers at *
 generalize r.q.map q6q = Q at *
 subst hlen
 refine H.q0e.view q5d rfl rfl ?_
 repeat' (first 
  | (with_reducible refine Fresh.intro fun b hb => ?_) <;> (try simp -dsimp -implicitDefEqProofs [*] at hb)
  | (with_reducible refine Rets.xcall (c _) ?_)
  | (simp -dsimp -implicitDefEqProofs [H.q05.enters, *]))
 refine q48 (cl _) fun e' s hs => ?_
 obtain ⟨pb, cap, hpb, hc1, hc2, rfl, rfl⟩ := hs
 rw [q5l]
 simp only [q61] at hpb
 clear cl c
 repeat' (simp -dsimp -implicitDefEqProofs [*])
 refine q48 (Panics.le (t pb cap _ (List.replicate (cap - peers.length) .any) _) (StLe.swap (by simp [*]))) fun e' s hs => ?_
 obtain ⟨rfl, rfl⟩ := hs
 repeat' (simp -dsimp -implicitDefEqProofs [*])
 refine Defs.xdef (k9f _ _ .nil .nil .nil _ 0 _ (by simp [*]) (by simp [*]) (by simp [*])) ?_
 repeat' (simp -dsimp -implicitDefEqProofs [q8e, *])
 exact RetView.sees (SeesV.le (q := .tuple [.agg k0x, .int e]) (PLeV.tuple2 q99 (.refl _))) (RetView.drop (st' := st) q5k ⟨rfl, rfl⟩)
theorem y59 {r r2 : PR Note} {n : Nat} {U : List Note} (h : InR r n U) (hn : 1 ≤ n ∧ n ≤ 24) (hU : U.length ≤ 1000) (hq : r.q.length ≤ 3000) (m : Mv Note) (hk : m.kind = 3) (hr2 : r2.peers.length = n)
  (t : ∀ pb cap cb C st, n ≤ cap ∧ cap ≤ 9223372036854775807 → q5s st cb → q5s st pb → (¬ cb = pb ∧ ¬ pb = cb) → Does P F.q0y [.ptr cb 0, .agg (mvE m)] (mS r C cap cb pb st) (.tuple []) (mS r2 C cap cb pb st)) (st : q43) :
  Rets P F.q0e [.agg (q6l r), .agg (mvE m)] st (.tuple [.agg (q6l r2), .int 0]) := by
 have c := fun st => q6t h hn hU (by omega) st
 have hlen := h.len
 have cl := fun st => q68 r.peers (by omega) (by intro e; rw [e] at hlen; simp at hlen; omega) st
 unfold q6l mS at *
 rw [hr2] at t ⊢
 rw [hlen] at t
 clear hU hq h
 generalize r.peers = peers at *
 generalize r.q.map q6q = Q at *
 generalize r2.peers = peers2 at *
 generalize r2.q.map q6q = Q2 at *
 subst hlen
 refine H.q0e.view q5d rfl rfl ?_
 repeat' (first 
  | (with_reducible refine Fresh.intro fun b hb => ?_) <;> (try simp -dsimp -implicitDefEqProofs [*] at hb)
  | (with_reducible refine Rets.xcall (c _) ?_)
  | (simp -dsimp -implicitDefEqProofs [H.q05.enters, *]))
 refine q48 (cl _) fun e' s hs => ?_
 obtain ⟨pb, cap, hpb, hc1, hc2, rfl, rfl⟩ := hs
 rw [q5l]
 simp only [q61] at hpb
 clear cl c
 repeat' (simp -dsimp -implicitDefEqProofs [*])
 refine q48 (Does.le (t pb cap _ (List.replicate (cap - peers.length) .any) _ ⟨hc1, hc2⟩ (by simp [*]) (by simp [*]) (by simp [*])) (StLe.swap (by simp [*]))) fun e' s hs => ?_
 obtain ⟨rfl, rfl⟩ := hs
 clear t
 have hpl := q62 peers2
 repeat' (simp -dsimp -implicitDefEqProofs [*])
 refine Defs.xdef (k9e _ _ _) ?_
 repeat' (simp -dsimp -implicitDefEqProofs [q8e, *])
 refine RetView.fresh1 (by simp [*]) ?_
 have hfr : Frz pb (k7f peers2 (List.replicate (cap - peers.length) .any)) (.own pb 0 peers.length cap) (.list false (prR peers2) peers.length) := by
  have := Frz.own (b := pb) (o := k7f peers2 (List.replicate (cap - peers.length) .any)) T.apiPeer (prR peers2 ++ List.replicate (cap - peers.length) .any) 0 peers.length cap 1 rfl hc1 hc2
  rw [List.drop_zero, Nat.mul_one, List.take_left' (by rw [hpl, hr2])] at this
  exact this
 refine RetView.freeze (.tuple [.agg [.list false (prR peers2) peers.length, Pk.lst false Q2, .list false [] 0], .int 0]) (by simp [*]) (.tuple (.cons (.agg (.cons hfr (.cons (.refl _) (.cons (.refl _) .nil)))) (.cons (.refl _) .nil))) ?_
 exact RetView.drop (st' := st) q5k ⟨rfl, rfl⟩
theorem y6a {r : PR Note} {n : Nat} {U : List Note} (h : InR r n U) (hn : 1 ≤ n ∧ n ≤ 24) (hU : U.length ≤ 1000) (hq : r.q.length ≤ 3000) (m : Mv Note) (hk : m.kind = 4) (e : Int)
  (t : ∀ pb cap cb C st, Panics P F.q1e [.ptr cb 0, .agg (mvE m)] (mS r C cap cb pb st) (.iface T.apiErrno (.int e))) (st : q43) : Rets P F.q0e [.agg (q6l r), .agg (mvE m)] st (.tuple [.agg k0x, .int e]) := by
 have c := fun st => q6t h hn hU (by omega) st
 have hlen := h.len
 have cl := fun st => q68 r.peers (by omega) (by intro e; rw [e] at hlen; simp at hlen; omega) st
 unfold q6l mS at *
 clear hU hq h
 generalize r.peers = peers at *
 generalize r.q.map q6q = Q at *
 subst hlen
 refine H.q0e.view q5d rfl rfl ?_
 repeat' (first 
  | (with_reducible refine Fresh.intro fun b hb => ?_) <;> (try simp -dsimp -implicitDefEqProofs [*] at hb)
  | (with_reducible refine Rets.xcall (c _) ?_)
  | (simp -dsimp -implicitDefEqProofs [H.q05.enters, *]))
 refine q48 (cl _) fun e' s hs => ?_
 obtain ⟨pb, cap, hpb, hc1, hc2, rfl, rfl⟩ := hs
 rw [q5l]
 simp only [q61] at hpb
 clear cl c
 repeat' (simp -dsimp -implicitDefEqProofs [*])
 refine q48 (Panics.le (t pb cap _ (List.replicate (cap - peers.length) .any) _) (StLe.swap (by simp [*]))) fun e' s hs => ?_
 obtain ⟨rfl, rfl⟩ := hs
 repeat' (simp -dsimp -implicitDefEqProofs [*])
 refine Defs.xdef (k9f _ _ .nil .nil .nil _ 0 _ (by simp [*]) (by simp [*]) (by simp [*])) ?_
 repeat' (simp -dsimp -implicitDefEqProofs [q8e, *])
 exact RetView.sees (SeesV.le (q := .tuple [.agg k0x, .int e]) (PLeV.tuple2 q99 (.refl _))) (RetView.drop (st' := st) q5k ⟨rfl, rfl⟩)
theorem y6b {r r2 : PR Note} {n : Nat} {U : List Note} (h : InR r n U) (hn : 1 ≤ n ∧ n ≤ 24) (hU : U.length ≤ 1000) (hq : r.q.length ≤ 3000) (m : Mv Note) (hk : m.kind = 4) (hr2 : r2.peers.length = n)
  (t : ∀ pb cap cb C st, n ≤ cap ∧ cap ≤ 9223372036854775807 → q5s st cb → q5s st pb → (¬ cb = pb ∧ ¬ pb = cb) → Does P F.q1e [.ptr cb 0, .agg (mvE m)] (mS r C cap cb pb st) (.tuple []) (mS r2 C cap cb pb st)) (st : q43) :
  Rets P F.q0e [.agg (q6l r), .agg (mvE m)] st (.tuple [.agg (q6l r2), .int 0]) := by
 have c := fun st => q6t h hn hU (by omega) st
 have hlen := h.len
 have cl := fun st => q68 r.peers (by omega) (by intro e; rw [e] at hlen; simp at hlen; omega) st
 unfold q6l mS at *
 rw [hr2] at t ⊢
 rw [hlen] at t
 clear hU hq h
 generalize r.peers = peers at *
 generalize r.q.map q6q = Q at *
 generalize r2.peers = peers2 at *
 generalize r2.q.map q6q = Q2 at *
 subst hlen
 refine H.q0e.view q5d rfl rfl ?_
 repeat' (first 
  | (with_reducible refine Fresh.intro fun b hb => ?_) <;> (try simp -dsimp -implicitDefEqProofs [*] at hb)
  | (with_reducible refine Rets.xcall (c _) ?_)
  | (simp -dsimp -implicitDefEqProofs [H.q05.enters, *]))
 refine q48 (cl _) fun e' s hs => ?_
 obtain ⟨pb, cap, hpb, hc1, hc2, rfl, rfl⟩ := hs
 rw [q5l]
 simp only [q61] at hpb
 clear cl c
 repeat' (simp -dsimp -implicitDefEqProofs [*])
 refine q48 (Does.le (t pb cap _ (List.replicate (cap - peers.length) .any) _ ⟨hc1, hc2⟩ (by simp [*]) (by simp [*]) (by simp [*])) (StLe.swap (by simp [*]))) fun e' s hs => ?_
 obtain ⟨rfl, rfl⟩ := hs
 clear t
 have hpl := q62 peers2
 repeat' (simp -dsimp -implicitDefEqProofs [*])
 refine Defs.xdef (k9e _ _ _) ?_
 repeat' (simp -dsimp -implicitDefEqProofs [q8e, *])
 refine RetView.fresh1 (by simp [*]) ?_
 have hfr : Frz pb (k7f peers2 (List.replicate (cap - peers.length) .any)) (.own pb 0 peers.length cap) (.list false (prR peers2) peers.length) := by
  have := Frz.own (b := pb) (o := k7f peers2 (List.replicate (cap - peers.length) .any)) T.apiPeer (prR peers2 ++ List.replicate (cap - peers.length) .any) 0 peers.length cap 1 rfl hc1 hc2
  rw [List.drop_zero, Nat.mul_one, List.take_left' (by rw [hpl, hr2])] at this
  exact this
 refine RetView.freeze (.tuple [.agg [.list false (prR peers2) peers.length, Pk.lst false Q2, .list false [] 0], .int 0]) (by simp [*]) (.tuple (.cons (.agg (.cons hfr (.cons (.refl _) (.cons (.refl _) .nil)))) (.cons (.refl _) .nil))) ?_
 exact RetView.drop (st' := st) q5k ⟨rfl, rfl⟩
theorem y6c {r : PR Note} {n : Nat} {U : List Note} (h : InR r n U) (hn : 1 ≤ n ∧ n ≤ 24) (hU : U.length ≤ 1000) (hq : r.q.length ≤ 3000) (m : Mv Note) (hk : m.kind = 5) (e : Int)
  (t : ∀ pb cap cb C st, Panics P F.q03 [.ptr cb 0, .agg (mvE m)] (mS r C cap cb pb st) (.iface T.apiErrno (.int e))) (st : q43) : Rets P F.q0e [.agg (q6l r), .agg (mvE m)] st (.tuple [.agg k0x, .int e]) := by
 have c := fun st => q6t h hn hU (by omega) st
 have hlen := h.len
 have cl := fun st => q68 r.peers (by omega) (by intro e; rw [e] at hlen; simp at hlen; omega) st
 unfold q6l mS at *
 clear hU hq h
 generalize r.peers = peers at *
 generalize r.q.map q6q = Q at *
 subst hlen
 refine H.q0e.view q5d rfl rfl ?_
 repeat' (first 
  | (with_reducible refine Fresh.intro fun b hb => ?_) <;> (try simp -dsimp -implicitDefEqProofs [*] at hb)
  | (with_reducible refine Rets.xcall (c _) ?_)
  | (simp -dsimp -implicitDefEqProofs [H.q05.enters, *]))
 refine q48 (cl _) fun e' s hs => ?_
 obtain ⟨pb, cap, hpb, hc1, hc2, rfl, rfl⟩ := hs
 rw [q5l]
 simp only [q61] at hpb
 clear cl c
 repeat' (simp -dsimp -implicitDefEqProofs [*])
 refine q48 (Panics.le (t pb cap _ (List.replicate (cap - peers.length) .any) _) (StLe.swap (by simp [*]))) fun e' s hs => ?_
 obtain ⟨rfl, rfl⟩ := hs
 repeat' (simp -dsimp -implicitDefEqProofs [*])
 refine Defs.xdef (k9f _ _ .nil .nil .nil _ 0 _ (by simp [*]) (by simp [*]) (by simp [*])) ?_
 repeat' (simp -dsimp -implicitDefEqProofs [q8e, *])
 exact RetView.sees (SeesV.le (q := .tuple [.agg k0x, .int e]) (PLeV.tuple2 q99 (.refl _))) (RetView.drop (st' := st) q5k ⟨rfl, rfl⟩)
theorem y6d {r r2 : PR Note} {n : Nat} {U : List Note} (h : InR r n U) (hn : 1 ≤ n ∧ n ≤ 24) (hU : U.length ≤ 1000) (hq : r.q.length ≤ 3000) (m : Mv Note) (hk : m.kind = 5) (hr2 : r2.peers.length = n)
  (t : ∀ pb cap cb C st, n ≤ cap ∧ cap ≤ 9223372036854775807 → q5s st cb → q5s st pb → (¬ cb = pb ∧ ¬ pb = cb) → Does P F.q03 [.ptr cb 0, .agg (mvE m)] (mS r C cap cb pb st) (.tuple []) (mS r2 C cap cb pb st)) (st : q43) :
  Rets P F.q0e [.agg (q6l r), .agg (mvE m)] st (.tuple [.agg (q6l r2), .int 0]) := by
 have c := fun st => q6t h hn hU (by omega) st
 have hlen := h.len
 have cl := fun st => q68 r.peers (by omega) (by intro e; rw [e] at hlen; simp at hlen; omega) st
 unfold q6l mS at *
 rw [hr2] at t ⊢
 rw [hlen] at t
 clear hU hq h
 generalize r.peers = peers at *
 generalize r.q.map q6q = Q at *
 generalize r2.peers = peers2 at *
 generalize r2.q.map q6q = Q2 at *
 subst hlen
 refine H.q0e.view q5d rfl rfl ?_
 repeat' (first 
  | (with_reducible refine Fresh.intro fun b hb => ?_) <;> (try simp -dsimp -implicitDefEqProofs [*] at hb)
  | (with_reducible refine Rets.xcall (c _) ?_)
  | (simp -dsimp -implicitDefEqProofs [H.q05.enters, *]))
 refine q48 (cl _) fun e' s hs => ?_
 obtain ⟨pb, cap, hpb, hc1, hc2, rfl, rfl⟩ := hs
 rw [q5l]
 simp only [q61] at hpb
 clear cl c
 repeat' (simp -dsimp -implicitDefEqProofs [*])
 refine q48 (Does.le (t pb cap _ (List.replicate (cap - peers.length) .any) _ ⟨hc1, hc2⟩ (by simp [*]) (by simp [*]) (by simp [*])) (StLe.swap (by simp [*]))) fun e' s hs => ?_
 obtain ⟨rfl, rfl⟩ := hs
 clear t
 have hpl := q62 peers2
 repeat' (simp -dsimp -implicitDefEqProofs [*])
 refine Defs.xdef (k9e _ _ _) ?_
 repeat' (simp -dsimp -implicitDefEqProofs [q8e, *])
 refine RetView.fresh1 (by simp [*]) ?_
 have hfr : Frz pb (k7f peers2 (List.replicate (cap - peers.length) .any)) (.own pb 0 peers.length cap) (.list false (prR peers2) peers.length) := by
  have := Frz.own (b := pb) (o := k7f peers2 (List.replicate (cap - peers.length) .any)) T.apiPeer (prR peers2 ++ List.replicate (cap - peers.length) .any) 0 peers.length cap 1 rfl hc1 hc2
  rw [List.drop_zero, Nat.mul_one, List.take_left' (by rw [hpl, hr2])] at this
  exact this
 refine RetView.freeze (.tuple [.agg [.list false (prR peers2) peers.length, Pk.lst false Q2, .list false [] 0], .int 0]) (by simp [*]) (.tuple (.cons (.agg (.cons hfr (.cons (.refl _) (.cons (.refl _) .nil)))) (.cons (.refl _) .nil))) ?_
 exact RetView.drop (st' := st) q5k ⟨rfl, rfl⟩
theorem q9e {r : PR Note} {n : Nat} {U : List Note} (h : InR r n U) (hn : 1 ≤ n ∧ n ≤ 24) (hU : U.length ≤ 1000) (hq : r.q.length ≤ 3000) (m : Mv Note) (st : q43) :
  Rets P F.q0e [.agg (q6l r), .agg (mvE m)] st (.tuple [.agg (z5w r m), .int (z5x r m)]) := by
 have hlen := h.len
 have nat : ∀ (x : Int) (k : Nat), 0 ≤ x ∧ x < k → x = (x.toNat : Int) := fun x k hx => by omega
 unfold z5w z5x PR.act
 by_cases k1 : m.kind = 1
 ·rw [if_pos k1]
  by_cases hp : 0 ≤ m.peer ∧ m.peer < r.peers.length
  ·rw [if_pos hp]
   by_cases hf : q5c m.note = true
   ·rw [if_pos hf]
    exact y55 h hn hU hq m k1 (by show (r.peers.set _ _).length = n; rw [List.length_set]; exact hlen) (fun pb cap cb C st hc h1 h2 h3 => y06 h hn.2 hU hq m m.peer.toNat (by omega) (by omega) hf C cap cb pb hc st h1 h2 h3) st
   ·rw [if_neg hf]
    exact j9g h hn hU hq m k1 580 (fun pb cap cb C st => j7k m pb _ cap _ hp (by simpa using hf) cb _) st
  ·rw [if_neg hp]
   exact j9g h hn hU hq m k1 1 (fun pb cap cb C st => j7j m pb _ cap _ hp cb _) st
 rw [if_neg k1]
 by_cases k2 : m.kind = 2
 ·rw [if_pos k2]
  by_cases hp : (0 ≤ m.peer ∧ m.peer < r.peers.length) ∧ (0 ≤ m.to ∧ m.to < r.peers.length) ∧ m.peer ≠ m.to
  ·rw [if_pos hp]
   exact y57 (r2 := r.send (r.all m.peer.toNat m.to.toNat)) h hn hU hq m k2 hlen (fun pb cap cb C st hc h1 h2 h3 => y07 h hn.2 hU hq m m.peer.toNat m.to.toNat (by omega) (by omega) (by omega) (by omega) (by omega) C cap cb pb hc st h1 h2 h3) st
  ·rw [if_neg hp]
   exact y56 h hn hU hq m k2 1 (fun pb cap cb C st => y08 m pb _ cap _ hp cb _) st
 rw [if_neg k2]
 by_cases k3 : m.kind = 3
 ·rw [if_pos k3]
  by_cases hp : 0 ≤ m.at' ∧ m.at' < r.q.length
  ·rw [if_pos hp]
   exact y59 h hn hU hq m k3 (h.deliver cmpN_ord _).len (fun pb cap cb C st hc h1 h2 h3 => z8p h hn.2 hU hq m m.at'.toNat (by omega) (by omega) C cap cb pb hc st h1 h2 h3) st
  ·rw [if_neg hp]
   exact y58 h hn hU hq m k3 1 (fun pb cap cb C st => z8o h hn.2 hq m hp C cap cb pb st) st
 rw [if_neg k3]
 by_cases k4 : m.kind = 4
 ·rw [if_pos k4]
  by_cases hp : 0 ≤ m.at' ∧ m.at' < r.q.length
  ·rw [if_pos hp]
   exact y6b (r2 := r.drop m.at'.toNat) h hn hU hq m k4 hlen (fun pb cap cb C st hc h1 h2 h3 => j7l h hn.2 hq m m.at'.toNat (by omega) (by omega) C cap cb pb st h1 h2 h3) st
  ·rw [if_neg hp]
   exact y6a h hn hU hq m k4 1 (fun pb cap cb C st => j7m h hn.2 hq m hp C cap cb pb st) st
 rw [if_neg k4]
 by_cases k5 : m.kind = 5
 ·rw [if_pos k5]
  by_cases hp : 0 ≤ m.at' ∧ m.at' < r.q.length
  ·rw [if_pos hp]
   exact y6d h hn hU hq m k5 (h.rep _).len (fun pb cap cb C st hc h1 h2 h3 => j1t h hn.2 hq m m.at'.toNat (by omega) (by omega) C cap cb pb st h1 h2 h3) st
  ·rw [if_neg hp]
   exact y6c h hn hU hq m k5 1 (fun pb cap cb C st => j1u h hn.2 hq m hp C cap cb pb st) st
 rw [if_neg k5]
 have c := fun st => q6t h hn hU (by omega) st
 unfold q6l at *
 clear hU hq h
 generalize r.peers = peers at *
 generalize r.q.map q6q = Q at *
 subst hlen
 refine H.q0e.view q5d rfl rfl ?_
 repeat' (first 
  | (with_reducible refine Fresh.intro fun b hb => ?_) <;> (try simp -dsimp -implicitDefEqProofs [*] at hb)
  | (with_reducible refine Rets.xcall (c _) ?_)
  | (simp -dsimp -implicitDefEqProofs [H.q05.enters, *]))
 exact RetView.sees (SeesV.le (q := .tuple [.agg k0x, .int 1]) (PLeV.tuple2 q99 (.refl _))) (RetView.drop (st' := st) q5k ⟨rfl, rfl⟩)
open Go.Pv Go.Pv.Cd
set_option maxRecDepth 100000
set_option maxHeartbeats 4000000
set_option linter.unusedVariables false
theorem z8q (st : q43) : Rets P F.q4d [] st (k6f []) := by
 refine H.q4d.view q5d rfl rfl ?_
 repeat' (first 
  | (with_reducible refine Fresh.intro fun b hb => ?_) <;> (try simp -dsimp -implicitDefEqProofs [*] at hb)
  | (simp -dsimp -implicitDefEqProofs [*]))
 exact RetView.sees (SeesV.le (q := k6f []) k7s) (RetView.drop (st' := st) q5k ⟨rfl, rfl⟩)
def j1v (n : Nat) : PR Note := ⟨List.replicate n [], [], []⟩
theorem newR_in {n : Nat} : InR (j1v n) n [] :=
 ⟨List.length_replicate .., fun l hl => by rw [(List.mem_replicate.1 hl).2]; exact .nil, fun l hl y hy => by rw [(List.mem_replicate.1 hl).2] at hy; exact hy, fun p hp => absurd hp List.not_mem_nil, rfl⟩
theorem j4m : ∀ n : Nat, PsLe (List.replicate n PV.nil) (prR (List.replicate n ([] : List Note)))
 | 0 => trivial
 | n + 1 => ⟨.nil1, j4m n⟩
theorem y6e (n : Int) (hn : ¬ (1 ≤ n ∧ n ≤ 24)) (st : q43) : Rets P F.q2f [.int n] st (.tuple [.agg k0x, .int 1]) := by
 refine H.q2f.view q5d rfl rfl ?_
 by_cases h1 : n < 1
 ·clear hn
  repeat' (first 
   | (with_reducible refine Fresh.intro fun b hb => ?_) <;> (try simp -dsimp -implicitDefEqProofs [*] at hb)
   | (simp -dsimp -implicitDefEqProofs [*]))
  exact RetView.sees (SeesV.le (q := .tuple [.agg k0x, .int 1]) (PLeV.tuple2 q99 (.refl _))) (RetView.drop (st' := st) q5k ⟨rfl, rfl⟩)
 ·have h2 : 24 < n := by omega
  clear hn
  repeat' (first 
   | (with_reducible refine Fresh.intro fun b hb => ?_) <;> (try simp -dsimp -implicitDefEqProofs [*] at hb)
   | (simp -dsimp -implicitDefEqProofs [*]))
  exact RetView.sees (SeesV.le (q := .tuple [.agg k0x, .int 1]) (PLeV.tuple2 q99 (.refl _))) (RetView.drop (st' := st) q5k ⟨rfl, rfl⟩)
theorem j4n (n : Nat) (hn : 1 ≤ n ∧ n ≤ 24) (st : q43) : Rets P F.q2f [.int n] st (.tuple [.agg (q6l (j1v n)), .int 0]) := by
 have h1 : ¬ (n : Int) < 1 := by omega
 have h2 : ¬ (24 : Int) < n := by omega
 have h3 : (n : Int) * 24 ≤ 281474976710656 := by omega
 have h4 : (n : Int) ≤ 9223372036854775807 := by omega
 refine H.q2f.view q5d rfl rfl ?_
 repeat' (first 
  | (with_reducible refine Fresh.intro fun b hb => ?_) <;> (try simp -dsimp -implicitDefEqProofs [*] at hb)
  | (with_reducible refine q5w (fun _ => z8q _) ?_)
  | (with_reducible refine DrawLate.intro [] ?_)
  | (with_reducible refine q51 ?_ ?_)
  | (with_reducible exact Cls.self _ _)
  | (with_reducible refine q57 ?_ ?_)
  | (simp -dsimp -implicitDefEqProofs [*]))
 have hfr : Frz b (.arr T.apiPeer (List.replicate n .nil)) (.own b 0 n n) (.list false (List.replicate n .nil) n) := by
  have := Frz.own (b := b) (o := .arr T.apiPeer (List.replicate n .nil)) T.apiPeer (List.replicate n .nil) 0 n n 1 rfl (Nat.le_refl _) (by omega)
  rw [List.drop_zero, Nat.mul_one, List.take_of_length_le (by simp)] at this
  exact this
 refine RetView.freeze (.tuple [.agg [.list false (List.replicate n .nil) n, Pk.lst false [], .list false [] 0], .int 0]) (by simp [*]) (.tuple (.cons (.agg (.cons hfr (.cons (.refl _) (.cons (.refl _) .nil)))) (.cons (.refl _) .nil))) ?_
 have e : q6l (j1v n) = [.list false (prR (List.replicate n [])) n, Pk.lst false [], .list false [] 0] := by
  unfold q6l j1v
  simp
 rw [e]
 exact RetView.sees (SeesV.le (q := .tuple [.agg [.list false (prR (List.replicate n [])) n, Pk.lst false [], .list false [] 0], .int 0]) (PLeV.tuple2 (PLeV.aggs ⟨PLe.lists (j4m n), .refl _, .refl _, trivial⟩) (.refl _))) (RetView.drop (st' := st) q5k ⟨rfl, rfl⟩)
open Go.Pv Go.Pv.Cd
set_option maxRecDepth 100000
set_option maxHeartbeats 8000000
def k0a (L : List (List (BitVec 8))) : List PV := L.map (q5v false)
theorem k5l (L : List (List (BitVec 8))) : (k0a L).length = L.length * 1 := by simp [k0a]
@[simp] theorem k2z (L : List (List (BitVec 8))) : (k0a L).length = L.length := by simp [k0a]
theorem k5m (L M : List (List (BitVec 8))) : k0a (L ++ M) = k0a L ++ k0a M := List.map_append
theorem k7a (l : List Note) (h : Rise q55 okN l) (hl : l.length ≤ 1000) (st : q43) :
  Rets P F.q2y [.agg [Note.lst false l]] st (.tuple [.list false (k0a (l.map msg)) l.length, .int 0]) := by
 have hv := fun st => k4d l (by omega) true ⟨fun _ => ⟨h, by omega⟩, fun _ => rfl⟩ st
 have hok := Hid.mk h.1
 clear h
 have hrl := Note.row_len l
 refine H.q2y.view q5d rfl rfl ?_
 repeat' (first 
  | (with_reducible refine Fresh.intro fun b hb => ?_) <;> (try simp -dsimp -implicitDefEqProofs [*] at hb)
  | (with_reducible refine Rets.xcall (hv _) ?_)
  | (simp -dsimp -implicitDefEqProofs [*]))
 refine q44 (σ := Nat × Option (Acc (List (BitVec 8)))) (fun x => [(2, q69 x.2), (10, Note.lst false l), (11, .int l.length), (12, .int (x.1 : Nat))]) (fun x => accS T.Luint8 st x.2) (fun x => x.1 ≤ l.length ∧ accOk k0a 1 st x.2 ∧ q5m x.2 = (l.take x.1).map msg) (fun x => l.length - x.1) (0, none) ⟨Nat.zero_le _, trivial, rfl⟩ (by simp) q5k ?_
 rintro ⟨i, o⟩ ⟨hi, ho, hol⟩
 simp only at hi ho hol
 have hw := q46 (n := i) (by omega)
 by_cases hil : i < l.length
 case neg =>
  obtain rfl : i = l.length := by omega
  rw [List.take_length] at hol
  have kl := Hid.mk hol
  clear hol
  repeat' (simp -dsimp -implicitDefEqProofs [*])
  refine RetView.accP2 rfl ho (.drop (st' := st) q5k ⟨?_, rfl⟩)
  rw [kl.out, List.length_map]
 have hsub := Note.row_sub l i hil
 have hm := fun st => q83 l[i] (hok.out _ (List.getElem_mem hil)) st
 have hlen : (q5m o).length = i := by rw [hol, List.length_map, List.length_take]; omega
 have hms : (z20 (msg l[i])).size ≤ 140737488355328 := by
  rw [k5k]
  have := k4e (hok.out _ (List.getElem_mem hil))
  omega
 have nx : Hid (q5m o ++ [msg l[i]] = (l.take (i + 1)).map msg) := ⟨by rw [hol, List.take_succ_eq_append_getElem hil, List.map_append]; rfl⟩
 clear hol
 generalize l[i] = x at *
 repeat' (first 
  | (with_reducible refine Fresh.intro fun b hb => ?_) <;> (try simp -dsimp -implicitDefEqProofs [*] at hb)
  | (with_reducible refine Rets.xcall (hm _) ?_)
  | (with_reducible refine Lit.imm ?_)
  | (simp -dsimp -implicitDefEqProofs [k6h, *]))
 refine xappend_box k5l k5m o ho hb [msg x] rfl rfl (by omega) (by omega) fun o' ho' hl' => ?_
 have kl := Hid.mk hl'
 clear hl'
 repeat' (simp -dsimp -implicitDefEqProofs [*])
 exact Next.intro (i + 1, o') ⟨by simp only; omega, ho'.unbox, by rw [kl.out, nx.out]⟩ (by simp only; omega) (by simp) (StLe.box o' (accB_new hb).2)
end Go.Proofs.YtmlmoaimjifpgaaGreat
