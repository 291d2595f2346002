/- Moves one after another, deliveries in any order: plain. -/
import Derived.Test.YtmlmoaimjifpgaaGreatP58C
import Derived.Test.YtmlmoaimjifpgaaGreatR58B
import Derived.Test.YtmlmoaimjifpgaaGreatY58D
import Derived.Test.YtmlmoaimjifpgaaGreatX58B
namespace Go.Proofs.YtmlmoaimjifpgaaGreat
open Go.Pv Go.Pv.Cd
set_option maxRecDepth 100000
set_option maxHeartbeats 4000000
open Go.Pv Go.Pv.Cd
set_option maxRecDepth 100000
set_option maxHeartbeats 8000000
open Go.Pv Go.Pv.Cd
set_option maxRecDepth 100000
set_option maxHeartbeats 8000000
def z60:Note:=⟨0,zeroE,zeroD⟩
open Go.Pv Go.Pv.Cd
set_option maxRecDepth 100000
set_option maxHeartbeats 4000000
def nE:Note:=⟨1,⟨3,1,0,3,0,0,5,7,8⟩,zeroD⟩
abbrev j6g:List PV:=[.int 1,.int 3,.int 1,.int 0,.int 3,.int 0,.int 0,.int 5,.int 7,.int 8,.int 0,.int 0,.int 0,.int 0,.int 0,.int 0,.int 0,.int 0,.int 0,.int 0,.int 0,.int 0,.int 0,.int 0]
abbrev y2y:List PV:=[.int 0,.int 0,.int 0,.int 0,.int 0,.int 0,.int 0,.int 0,.int 0,.int 0,.int 0,.int 0,.int 0,.int 0,.int 0,.int 0,.int 0,.int 0,.int 0,.int 0,.int 0,.int 0,.int 0,.int 0]
theorem j6h:q5s nE=true:=by decide
theorem z91:Rise q6v okN [nE]:=⟨fun x hx=>by rw [List.mem_singleton.1 hx]; exact j6h,List.pairwise_singleton ..⟩
theorem k54 (st:q5c):Rets P F.q2c [.int 3,.int 5] st (.agg j6g):=by
 refine H.q2c.view q5l rfl rfl ?_
 repeat' (first 
  | (with_reducible refine Fresh.intro fun b hb=>?_) <;> (try simp -dsimp -implicitDefEqProofs [*] at hb)
  | (simp -dsimp -implicitDefEqProofs [*]))
 exact .drop (st':=st) q5m ⟨rfl,rfl⟩
abbrev rE:List PV:=[.list false [] 0,.list false [] 0,.list false [] 0]
abbrev byM:PV:=q54 false (msg nE)
abbrev two:List PV:=[.list false [.list false [] 0,.list false [] 0] 2,.list false [] 0,.list false [] 0]
abbrev rX:List PV:=[.list false [.list false [] 0,.list false j6g 1] 2,.list false [.int 1,.int 0,byM] 1,.list false [] 0]
abbrev rY:List PV:=[.list false [.list false j6g 1,.list false j6g 1] 2,.list false [] 0,.list false [] 0]
def rx:PR Note:=⟨[[],[nE]],[(1,0,nE)],[]⟩
def ry:PR Note:=⟨[[nE],[nE]],[],[]⟩
theorem act1:(y2u 2).act q6v q5s ⟨1,1,0,0,nE⟩=.inl rx:=by
 unfold PR.act
 rw [if_pos rfl]
 simp only
 rw [if_pos (by decide),if_pos j6h]
 rfl
theorem act2:(y2u 2).act q6v q5s ⟨1,0,0,0,z60⟩=.inr 580:=by
 unfold PR.act
 rw [if_pos rfl]
 simp only
 rw [if_pos (by decide),if_neg (by decide)]
theorem act3:(y2u 2).act q6v q5s ⟨3,0,0,0,z60⟩=.inr 1:=by
 unfold PR.act
 rw [if_neg (by decide),if_neg (by decide),if_pos rfl]
 simp only
 rw [if_neg (by decide)]
theorem act4:rx.act q6v q5s ⟨3,0,0,0,z60⟩=.inl ry:=by
 unfold PR.act
 rw [if_neg (by decide),if_neg (by decide),if_pos rfl]
 simp only
 rw [if_pos (by decide)]
 rfl
theorem rx_in:InR rx 2 [nE]:=by
 have:=newR_in.act cmpN_ord act1
 exact this.1
theorem v19:InR ry 2 [nE]:=by
 have:=rx_in.act cmpN_ord act4
 exact this.1
theorem y2z (st:q5c):Rets P F.q0l [.agg two,.agg (.int 1::.int 1::.int 0::.int 0::j6g)] st (.tuple [.agg rX,.int 0]):=by
 have:=k8c (newR_in (n:=2)) (by omega) (by simp) (by decide) ⟨1,1,0,0,nE⟩ st
 unfold y46 y47 at this
 rw [act1] at this
 exact this
theorem y20 (st:q5c):Rets P F.q0l [.agg two,.agg (.int 1::.int 0::.int 0::.int 0::y2y)] st (.tuple [.agg rE,.int 580]):=by
 have:=k8c (newR_in (n:=2)) (by omega) (by simp) (by decide) ⟨1,0,0,0,z60⟩ st
 unfold y46 y47 at this
 rw [act2] at this
 exact this
theorem y21 (st:q5c):Rets P F.q0l [.agg two,.agg (.int 3::.int 0::.int 0::.int 0::y2y)] st (.tuple [.agg rE,.int 1]):=by
 have:=k8c (newR_in (n:=2)) (by omega) (by simp) (by decide) ⟨3,0,0,0,z60⟩ st
 unfold y46 y47 at this
 rw [act3] at this
 exact this
theorem y22 (st:q5c):Rets P F.q0l [.agg rX,.agg (.int 3::.int 0::.int 0::.int 0::y2y)] st (.tuple [.agg rY,.int 0]):=by
 have:=k8c rx_in (by omega) (by simp) (by decide) ⟨3,0,0,0,z60⟩ st
 unfold y46 y47 at this
 rw [act4] at this
 exact this
theorem y8e (st:q5c):Rets P F.q2i [.agg [.nil,.nil,.nil]] st (.int 580):=by
 refine H.q2i.view q5l rfl rfl ?_
 repeat' (first 
  | (with_reducible refine Fresh.intro fun b hb=>?_) <;> (try simp -dsimp -implicitDefEqProofs [*] at hb)
  | (simp -dsimp -implicitDefEqProofs [*]))
 exact .drop (st':=st) q5m ⟨rfl,rfl⟩
theorem j6i (st:q5c):Rets P F.q2i [.agg rY] st (.int 0):=q7j v19 (by omega) (by simp) (by decide) st
def zC:C44:=⟨z44,rfl⟩
theorem j6j (st:q5c):Rets P F.q2h [.agg z44,.agg [.list false j6g 1]] st (.tuple [.agg (zC.row (.list false [.int 3,.int 1,.int 0,.int 3,.int 0,.int 0,.int 5,.int 7,.int 8] 1) (.list false [] 0)),.int 0]):=by
 exact z2h zC [nE] z91 (by simp) st
theorem z92 (st:q5c):Rets P F.q1x [.agg [.list false j6g 1]] st (.tuple [.list false [byM] 1,.int 0]):=k7k [nE] z91 (by simp) st
theorem j6k (t:Bool)(st:q5c):Rets P F.q15 [.list t [byM,byM] 2] st (.tuple [.agg [.list false j6g 1],.int 0]):=by
 have:=k9x t [msg nE,msg nE] (by simp) (fun b hb=>by
  have:=k6u j6h
  simp at hb
  subst hb
  omega) st
 have hr:=k8a j6h
 have hB:k6z [msg nE,msg nE]=true:=by simp [k6z,hr]
 have hL:z6z [msg nE,msg nE]=[nE]:=by
  obtain⟨h1,h2⟩:=k9w [msg nE,msg nE]
  refine Rise.ext cmpN_ord h1 z91 fun x=>?_
  rw [h2]
  simp [hr,eq_comm]
 have hC:k28 [msg nE,msg nE]=[nE]:=by unfold k28; rw [hB,<-hL]; rfl
 have hE:k4v [msg nE,msg nE]=0:=by unfold k4v; rw [hB]; rfl
 rw [hC,hE] at this
 exact this
theorem j6l (t:Bool)(st:q5c):Rets P F.q15 [.list t [.nil] 1] st (.tuple [.agg [.list false [] 0],.int 580]):=by
 have:=k9x t [[]] (by simp) (by simp) st
 have hr:q8c []=none:=by decide
 have hB:k6z [[]]=false:=by simp [k6z,hr]
 have hC:k28 [[]]=[]:=by unfold k28; rw [hB]; rfl
 have hE:k4v [[]]=580:=by unfold k4v; rw [hB]; rfl
 rw [hC,hE] at this
 refine Rets.args (qs:=[.list t [.list false [] 0] 1]) ⟨PLe.lists ⟨.nil1,trivial⟩,trivial⟩ this
theorem j9a (st:q5c):Rets P F.q27 [.int 2] st (.tuple [.agg two,.int 0]):=y8a 2 (by omega) st
theorem j9b (st:q5c):Rets P F.q27 [.int 0] st (.tuple [.agg rE,.int 1]):=y79 0 (by omega) st
theorem z61 (t:Bool)(st:q5c):Rets P F.q1e [.list false j6g 1,.list t j6g 1] st (.bool true):=k37 false t [nE] (by simp) st
theorem y23 (st:q5c):Rets P F.q1p [.agg j6g] st byM:=q9w nE j6h st
theorem j6m (st:q5c):Rets P F.q3p [] st (.bool true):=by
 refine H.q3p.view q5l rfl rfl ?_
 repeat' (first 
  | (with_reducible refine Fresh.intro fun b hb=>?_) <;> (try simp -dsimp -implicitDefEqProofs [*] at hb)
  | (with_reducible refine Rets.xcall (j9a _) ?_)
  | (with_reducible refine Rets.xcall (j9b _) ?_)
  | (with_reducible refine Rets.xcall (k54 _) ?_)
  | (with_reducible refine q6f (fun _=>k54 _) ?_)
  | (with_reducible refine q6f (fun _=>y2z _) ?_)
  | (with_reducible refine Rets.xcall (y20 _) ?_)
  | (with_reducible refine Rets.xcall (y21 _) ?_)
  | (with_reducible refine Rets.xcall (y22 _) ?_)
  | (with_reducible refine Lit.imm ?_)
  | (with_reducible refine DrawLate.intro [] ?_)
  | (with_reducible refine q59 ?_ ?_)
  | (with_reducible exact Cls.self _ _)
  | (with_reducible refine q6p ?_ ?_)
  | (simp -dsimp -implicitDefEqProofs [*]))
 refine q72 _ false (msg nE) rfl ?_
 repeat' (first 
  | (with_reducible refine Rets.xcall (k54 _) ?_)
  | (with_reducible refine Rets.xcall (y23 _) ?_)
  | (simp -dsimp -implicitDefEqProofs [*]))
 refine q72 _ false (msg nE) rfl ?_
 repeat' (first 
  | (with_reducible refine Rets.xcall (z61 _ _) ?_)
  | (simp -dsimp -implicitDefEqProofs [*]))
 refine Rets.xcall (j6j _) ?_
 repeat' (first 
  | (with_reducible refine Fresh.intro fun b hb=>?_) <;> (try simp -dsimp -implicitDefEqProofs [*] at hb)
  | (with_reducible refine Rets.xcall (z92 _) ?_)
  | (with_reducible refine Lit.imm ?_)
  | ((with_reducible refine Grow.intro ?_ fun b cap hb hc1 hc2=>?_); omega) <;> (try simp -dsimp -implicitDefEqProofs [*] at hb)
  | (simp -dsimp -implicitDefEqProofs [*]))
 refine k1q (row:=byM::List.replicate (cap-1) PV.any) (by simp) (by simp; omega) hc1 hc2 ?_
 repeat' (first 
  | ((with_reducible refine Grow.intro ?_ fun b cap hb hc1 hc2=>?_); omega) <;> (try simp -dsimp -implicitDefEqProofs [*] at hb)
  | (simp -dsimp -implicitDefEqProofs [*]))
 refine k88 ?_ (StLe.refl _) (.cons (Frz.own T.Luint8 _ 0 2 cap 1 rfl hc1 hc2) .nil) (j6k false _) ?_
 ·exact hb
 repeat' (first 
  | (with_reducible refine Fresh.intro fun b hb=>?_) <;> (try simp -dsimp -implicitDefEqProofs [*] at hb)
  | (with_reducible refine Rets.xcall (k54 _) ?_)
  | (with_reducible refine Rets.xcall (z61 _ _) ?_)
  | (with_reducible refine Rets.xcall (j6l _ _) ?_)
  | (with_reducible refine Rets.xcall (y8e _) ?_)
  | (with_reducible refine Rets.xcall (j6i _) ?_)
  | (with_reducible refine Lit.imm ?_)
  | (with_reducible refine DrawLate.intro [] ?_)
  | (simp -dsimp -implicitDefEqProofs [*]))
 exact .drop (st':=st) q5m ⟨rfl,rfl⟩
end Go.Proofs.YtmlmoaimjifpgaaGreat
