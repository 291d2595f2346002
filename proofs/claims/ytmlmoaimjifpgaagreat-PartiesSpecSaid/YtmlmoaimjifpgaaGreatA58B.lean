/- Moves one after another, by the law's text. -/
import Derived.Test.YtmlmoaimjifpgaaGreatX58B
import Derived.Test.YtmlmoaimjifpgaaGreatY58D
namespace Go.Proofs.YtmlmoaimjifpgaaGreat
open Go.Pv Go.Pv.Cd
set_option maxRecDepth 100000
set_option maxHeartbeats 8000000
open Go.Pv Go.Pv.Cd
set_option maxRecDepth 100000
set_option maxHeartbeats 8000000
def z65:Note:=⟨0,zeroE,zeroD⟩
open Go.Pv Go.Pv.Cd
set_option maxRecDepth 100000
set_option maxHeartbeats 4000000
def nE:Note:=⟨1,⟨3,1,0,3,0,0,5,7,8⟩,zeroD⟩
abbrev j6f:List PV:=[.int 1,.int 3,.int 1,.int 0,.int 3,.int 0,.int 0,.int 5,.int 7,.int 8,.int 0,.int 0,.int 0,.int 0,.int 0,.int 0,.int 0,.int 0,.int 0,.int 0,.int 0,.int 0,.int 0,.int 0]
abbrev y26:List PV:=[.int 0,.int 0,.int 0,.int 0,.int 0,.int 0,.int 0,.int 0,.int 0,.int 0,.int 0,.int 0,.int 0,.int 0,.int 0,.int 0,.int 0,.int 0,.int 0,.int 0,.int 0,.int 0,.int 0,.int 0]
theorem j6g:q5q nE=true:=by decide
theorem z9x:Rise q6p okN [nE]:=⟨fun x hx=>by rw [List.mem_singleton.1 hx]; exact j6g,List.pairwise_singleton ..⟩
theorem k6g (st:q5f):Rets P F.q2c [.int 3,.int 5] st (.agg j6f):=by
 refine H.q2c.view q5n rfl rfl ?_
 repeat' (first 
  | (with_reducible refine Fresh.intro fun b hb=>?_) <;> (try simp -dsimp -implicitDefEqProofs [*] at hb)
  | (simp -dsimp -implicitDefEqProofs [*]))
 exact .drop (st':=st) q5o ⟨rfl,rfl⟩
abbrev rE:List PV:=[.list false [] 0,.list false [] 0,.list false [] 0]
abbrev byM:PV:=q53 false (msg nE)
abbrev two:List PV:=[.list false [.list false [] 0,.list false [] 0] 2,.list false [] 0,.list false [] 0]
abbrev rX:List PV:=[.list false [.list false [] 0,.list false j6f 1] 2,.list false [.int 1,.int 0,byM] 1,.list false [] 0]
abbrev rY:List PV:=[.list false [.list false j6f 1,.list false j6f 1] 2,.list false [] 0,.list false [] 0]
def rx:PR Note:=⟨[[],[nE]],[(1,0,nE)],[]⟩
def ry:PR Note:=⟨[[nE],[nE]],[],[]⟩
theorem act1:(j69 2).act q6p q5q ⟨1,1,0,0,nE⟩=.inl rx:=by
 unfold PR.act
 rw [if_pos rfl]
 simp only
 rw [if_pos (by decide),if_pos j6g]
 rfl
theorem act2:(j69 2).act q6p q5q ⟨1,0,0,0,z65⟩=.inr 580:=by
 unfold PR.act
 rw [if_pos rfl]
 simp only
 rw [if_pos (by decide),if_neg (by decide)]
theorem act3:(j69 2).act q6p q5q ⟨3,0,0,0,z65⟩=.inr 1:=by
 unfold PR.act
 rw [if_neg (by decide),if_neg (by decide),if_pos rfl]
 simp only
 rw [if_neg (by decide)]
theorem act4:rx.act q6p q5q ⟨3,0,0,0,z65⟩=.inl ry:=by
 unfold PR.act
 rw [if_neg (by decide),if_neg (by decide),if_pos rfl]
 simp only
 rw [if_pos (by decide)]
 rfl
theorem rx_in:InR rx 2 [nE]:=by
 have:=newR_in.act cmpN_ord act1
 exact this.1
theorem v19:InR ry 2 [nE]:=by
 have:=rx_in.act cmpN_ord act4
 exact this.1
theorem y27 (st:q5f):Rets P F.q0h [.agg two,.agg (.int 1::.int 1::.int 0::.int 0::j6f)] st (.tuple [.agg rX,.int 0]):=by
 have:=k8f (newR_in (n:=2)) (by omega) (by simp) (by decide) ⟨1,1,0,0,nE⟩ st
 unfold y46 y47 at this
 rw [act1] at this
 exact this
theorem y28 (st:q5f):Rets P F.q0h [.agg two,.agg (.int 1::.int 0::.int 0::.int 0::y26)] st (.tuple [.agg rE,.int 580]):=by
 have:=k8f (newR_in (n:=2)) (by omega) (by simp) (by decide) ⟨1,0,0,0,z65⟩ st
 unfold y46 y47 at this
 rw [act2] at this
 exact this
theorem y29 (st:q5f):Rets P F.q0h [.agg two,.agg (.int 3::.int 0::.int 0::.int 0::y26)] st (.tuple [.agg rE,.int 1]):=by
 have:=k8f (newR_in (n:=2)) (by omega) (by simp) (by decide) ⟨3,0,0,0,z65⟩ st
 unfold y46 y47 at this
 rw [act3] at this
 exact this
theorem y3a (st:q5f):Rets P F.q0h [.agg rX,.agg (.int 3::.int 0::.int 0::.int 0::y26)] st (.tuple [.agg rY,.int 0]):=by
 have:=k8f rx_in (by omega) (by simp) (by decide) ⟨3,0,0,0,z65⟩ st
 unfold y46 y47 at this
 rw [act4] at this
 exact this
theorem y8c (st:q5f):Rets P F.q1i [.agg [.nil,.nil,.nil]] st (.int 580):=by
 refine H.q1i.view q5n rfl rfl ?_
 repeat' (first 
  | (with_reducible refine Fresh.intro fun b hb=>?_) <;> (try simp -dsimp -implicitDefEqProofs [*] at hb)
  | (simp -dsimp -implicitDefEqProofs [*]))
 exact .drop (st':=st) q5o ⟨rfl,rfl⟩
theorem j6h (st:q5f):Rets P F.q1i [.agg rY] st (.int 0):=j55 v19 (by omega) (by simp) (by decide) st
def zC:C44:=⟨z44,rfl⟩
theorem j6i (st:q5f):Rets P F.q4d [.agg z44,.agg [.list false j6f 1]] st (.tuple [.agg (zC.row (.list false [.int 3,.int 1,.int 0,.int 3,.int 0,.int 0,.int 5,.int 7,.int 8] 1) (.list false [] 0)),.int 0]):=by
 exact j24 zC [nE] z9x (by simp) st
theorem z9y (st:q5f):Rets P F.q3c [.agg [.list false j6f 1]] st (.tuple [.list false [byM] 1,.int 0]):=z62 [nE] z9x (by simp) st
theorem j6j (t:Bool)(st:q5f):Rets P F.q3d [.list t [byM,byM] 2] st (.tuple [.agg [.list false j6f 1],.int 0]):=by
 have:=z64 t [msg nE,msg nE] (by simp) (fun b hb=>by
  have:=k04 j6g
  simp at hb
  subst hb
  omega) st
 have hr:=k3x j6g
 have hB:z36 [msg nE,msg nE]=true:=by simp [z36,hr]
 have hL:z9v [msg nE,msg nE]=[nE]:=by
  obtain⟨h1,h2⟩:=z9w [msg nE,msg nE]
  refine Rise.ext cmpN_ord h1 z9x fun x=>?_
  rw [h2]
  simp [hr,eq_comm]
 have hC:z37 [msg nE,msg nE]=[nE]:=by unfold z37; rw [hB,<-hL]; rfl
 have hE:z38 [msg nE,msg nE]=0:=by unfold z38; rw [hB]; rfl
 rw [hC,hE] at this
 exact this
theorem j6k (t:Bool)(st:q5f):Rets P F.q3d [.list t [.nil] 1] st (.tuple [.agg [.list false [] 0],.int 580]):=by
 have:=z64 t [[]] (by simp) (by simp) st
 have hr:q8f []=none:=by decide
 have hB:z36 [[]]=false:=by simp [z36,hr]
 have hC:z37 [[]]=[]:=by unfold z37; rw [hB]; rfl
 have hE:z38 [[]]=580:=by unfold z38; rw [hB]; rfl
 rw [hC,hE] at this
 refine Rets.args (qs:=[.list t [.list false [] 0] 1]) ⟨PLe.lists ⟨.nil1,trivial⟩,trivial⟩ this
theorem j9f (st:q5f):Rets P F.q2k [.int 2] st (.tuple [.agg two,.int 0]):=y08 2 (by omega) st
theorem j9g (st:q5f):Rets P F.q2k [.int 0] st (.tuple [.agg rE,.int 1]):=y07 0 (by omega) st
theorem z67 (t:Bool)(st:q5f):Rets P F.q1e [.list false j6f 1,.list t j6f 1] st (.bool true):=k4g false t [nE] (by simp) st
theorem y3b (st:q5f):Rets P F.q1p [.agg j6f] st byM:=q96 nE j6g st
theorem j6l (st:q5f):Rets P F.q3t [] st (.bool true):=by
 refine H.q3t.view q5n rfl rfl ?_
 repeat' (first 
  | (with_reducible refine Fresh.intro fun b hb=>?_) <;> (try simp -dsimp -implicitDefEqProofs [*] at hb)
  | (with_reducible refine Rets.xcall (j9f _) ?_)
  | (with_reducible refine Rets.xcall (j9g _) ?_)
  | (with_reducible refine Rets.xcall (k6g _) ?_)
  | (with_reducible refine q56 (fun _=>k6g _) ?_)
  | (with_reducible refine q56 (fun _=>y27 _) ?_)
  | (with_reducible refine Rets.xcall (y28 _) ?_)
  | (with_reducible refine Rets.xcall (y29 _) ?_)
  | (with_reducible refine Rets.xcall (y3a _) ?_)
  | (with_reducible refine Lit.imm ?_)
  | (with_reducible refine DrawLate.intro [] ?_)
  | (with_reducible refine q6f ?_ ?_)
  | (with_reducible exact Cls.self _ _)
  | (with_reducible refine q6i ?_ ?_)
  | (simp -dsimp -implicitDefEqProofs [*]))
 refine q77 _ false (msg nE) rfl ?_
 repeat' (first 
  | (with_reducible refine Rets.xcall (k6g _) ?_)
  | (with_reducible refine Rets.xcall (y3b _) ?_)
  | (simp -dsimp -implicitDefEqProofs [*]))
 refine q77 _ false (msg nE) rfl ?_
 repeat' (first 
  | (with_reducible refine Rets.xcall (z67 _ _) ?_)
  | (simp -dsimp -implicitDefEqProofs [*]))
 refine Rets.xcall (j6i _) ?_
 repeat' (first 
  | (with_reducible refine Fresh.intro fun b hb=>?_) <;> (try simp -dsimp -implicitDefEqProofs [*] at hb)
  | (with_reducible refine Rets.xcall (z9y _) ?_)
  | (with_reducible refine Lit.imm ?_)
  | ((with_reducible refine Grow.intro ?_ fun b cap hb hc1 hc2=>?_); omega) <;> (try simp -dsimp -implicitDefEqProofs [*] at hb)
  | (simp -dsimp -implicitDefEqProofs [*]))
 refine k2a (row:=byM::List.replicate (cap-1) PV.any) (by simp) (by simp; omega) hc1 hc2 ?_
 repeat' (first 
  | ((with_reducible refine Grow.intro ?_ fun b cap hb hc1 hc2=>?_); omega) <;> (try simp -dsimp -implicitDefEqProofs [*] at hb)
  | (simp -dsimp -implicitDefEqProofs [*]))
 refine k88 ?_ (StLe.refl _) (.cons (Frz.own T.Luint8 _ 0 2 cap 1 rfl hc1 hc2) .nil) (j6j false _) ?_
 ·exact hb
 repeat' (first 
  | (with_reducible refine Fresh.intro fun b hb=>?_) <;> (try simp -dsimp -implicitDefEqProofs [*] at hb)
  | (with_reducible refine Rets.xcall (k6g _) ?_)
  | (with_reducible refine Rets.xcall (z67 _ _) ?_)
  | (with_reducible refine Rets.xcall (j6k _ _) ?_)
  | (with_reducible refine Rets.xcall (y8c _) ?_)
  | (with_reducible refine Rets.xcall (j6h _) ?_)
  | (with_reducible refine Lit.imm ?_)
  | (with_reducible refine DrawLate.intro [] ?_)
  | (simp -dsimp -implicitDefEqProofs [*]))
 exact .drop (st':=st) q5o ⟨rfl,rfl⟩
end Go.Proofs.YtmlmoaimjifpgaaGreat
