/- The chapter's examples. -/
import Derived.Test.YthkjdppifnmakaaS51T
import Derived.Test.YthkjdppifnmakaaLLo
namespace Go.Proofs.Ythkjdppifnmakaa
open Go.Pv
set_option maxRecDepth 100000
set_option maxHeartbeats 4000000
abbrev markE (no v : Int) : Event := ⟨no, 1, 0, 0, 0, 0, v, 0, 0⟩
theorem mark_spec (no v : Int) (st : Store) : Rets P F.podiumlaw51_mark [.int no, .int v] st (markE no v).pv := by
  refine (H.podiumlaw51_mark).pure hmix rfl rfl ?_
  repeat' (first
    | (with_reducible refine Fresh.intro fun b hb => ?_) <;> (try simp -dsimp -implicitDefEqProofs [*] at hb)
    | (with_reducible refine Lit.imm ?_)
    | ((with_reducible refine Grow.intro ?_ fun b cap hb hc1 hc2 => ?_); omega) <;> (try simp -dsimp -implicitDefEqProofs [*] at hb)
    | (with_reducible refine RetView.nil2 ?_)
    | (with_reducible refine RetView.nil1 ?_)
    | (with_reducible refine RetView.loose2 (t := true) ?_)
    | (with_reducible refine RetView.loose1 (t := true) ?_)
    | (with_reducible refine RetView.fz 1 ?_ ?_)
    | (with_reducible refine RetView.same ?_)
    | (with_reducible refine DrawLate.intro [] ?_)
    | (with_reducible refine Cls_and ?_ ?_)
    | (with_reducible exact Cls.self _ _)
    | (with_reducible refine Cls_same ?_)
    | (with_reducible refine Cls_in ?_ ?_)
    | (with_reducible refine Cls_fresh ?_ ?_)
    | (with_reducible refine And.intro (fun h => ?_) (fun h => ?_)) <;> (try (exfalso; omega))
    | (with_reducible refine And.intro (fun h => ?_) ?_) <;> (try (exfalso; omega))
    | ((with_reducible refine and_keep ?_ fun hk => ?_); omega)
    | (simp -dsimp -implicitDefEqProofs [Event.fold, *]))
@[simp] theorem Decision.setEv (d : Decision) (e : Event) : setCells d.enc 5 e.enc = (Decision.mk d.no d.known d.kind d.target d.value e.no e.kind e.round e.entry e.judge e.item e.value e.at' e.known).enc := rfl
def l3 (x y z : Event) : List Event := [x, y, z]
theorem fold3 (t : Bool) (x y z : Event) : PV.list t (setCells (setCells (setCells [.int 0, .int 0, .int 0, .int 0, .int 0, .int 0, .int 0, .int 0, .int 0, .int 0, .int 0, .int 0, .int 0, .int 0, .int 0, .int 0, .int 0, .int 0, .int 0, .int 0, .int 0, .int 0, .int 0, .int 0, .int 0, .int 0, .int 0] 0 x.enc) 9 y.enc) 18 z.enc) 3 = Event.lst t (l3 x y z) := by
  simp [setCells, Event.enc, Event.row, l3]
def l4 (x y z w : Event) : List Event := [x, y, z, w]
theorem fold4 (t : Bool) (x y z w : Event) : PV.list t (setCells (setCells (setCells (setCells [.int 0, .int 0, .int 0, .int 0, .int 0, .int 0, .int 0, .int 0, .int 0, .int 0, .int 0, .int 0, .int 0, .int 0, .int 0, .int 0, .int 0, .int 0, .int 0, .int 0, .int 0, .int 0, .int 0, .int 0, .int 0, .int 0, .int 0, .int 0, .int 0, .int 0, .int 0, .int 0, .int 0, .int 0, .int 0, .int 0] 0 x.enc) 9 y.enc) 18 z.enc) 27 w.enc) 4 = Event.lst t (l4 x y z w) := by
  simp [setCells, Event.enc, Event.row, l4]
def d1 (a : Decision) : List Decision := [a]
theorem foldD1 (t : Bool) (a : Decision) : PV.list t a.enc 1 = Decision.lst t (d1 a) := by
  simp [Decision.row, d1]
def d3 (a b c : Decision) : List Decision := [a, b, c]
theorem foldD3 (t : Bool) (a b c : Decision) : PV.list t (setCells (setCells (setCells [.int 0, .int 0, .int 0, .int 0, .int 0, .int 0, .int 0, .int 0, .int 0, .int 0, .int 0, .int 0, .int 0, .int 0, .int 0, .int 0, .int 0, .int 0, .int 0, .int 0, .int 0, .int 0, .int 0, .int 0, .int 0, .int 0, .int 0, .int 0, .int 0, .int 0, .int 0, .int 0, .int 0, .int 0, .int 0, .int 0, .int 0, .int 0, .int 0, .int 0, .int 0, .int 0] 0 a.enc) 14 b.enc) 28 c.enc) 3 = Decision.lst t (d3 a b c) := by
  simp [setCells, Decision.enc, Decision.row, d3]
def d4 (a b c d : Decision) : List Decision := [a, b, c, d]
theorem foldD4 (t : Bool) (a b c d : Decision) : PV.list t (setCells (setCells (setCells (setCells [.int 0, .int 0, .int 0, .int 0, .int 0, .int 0, .int 0, .int 0, .int 0, .int 0, .int 0, .int 0, .int 0, .int 0, .int 0, .int 0, .int 0, .int 0, .int 0, .int 0, .int 0, .int 0, .int 0, .int 0, .int 0, .int 0, .int 0, .int 0, .int 0, .int 0, .int 0, .int 0, .int 0, .int 0, .int 0, .int 0, .int 0, .int 0, .int 0, .int 0, .int 0, .int 0, .int 0, .int 0, .int 0, .int 0, .int 0, .int 0, .int 0, .int 0, .int 0, .int 0, .int 0, .int 0, .int 0, .int 0] 0 a.enc) 14 b.enc) 28 c.enc) 42 d.enc) 4 = Decision.lst t (d4 a b c d) := by
  simp [setCells, Decision.enc, Decision.row, d4]
def d5 (a b c d e : Decision) : List Decision := [a, b, c, d, e]
theorem foldD5 (t : Bool) (a b c d e : Decision) : PV.list t (setCells (setCells (setCells (setCells (setCells [.int 0, .int 0, .int 0, .int 0, .int 0, .int 0, .int 0, .int 0, .int 0, .int 0, .int 0, .int 0, .int 0, .int 0, .int 0, .int 0, .int 0, .int 0, .int 0, .int 0, .int 0, .int 0, .int 0, .int 0, .int 0, .int 0, .int 0, .int 0, .int 0, .int 0, .int 0, .int 0, .int 0, .int 0, .int 0, .int 0, .int 0, .int 0, .int 0, .int 0, .int 0, .int 0, .int 0, .int 0, .int 0, .int 0, .int 0, .int 0, .int 0, .int 0, .int 0, .int 0, .int 0, .int 0, .int 0, .int 0, .int 0, .int 0, .int 0, .int 0, .int 0, .int 0, .int 0, .int 0, .int 0, .int 0, .int 0, .int 0, .int 0, .int 0] 0 a.enc) 14 b.enc) 28 c.enc) 42 d.enc) 56 e.enc) 5 = Decision.lst t (d5 a b c d e) := by
  simp [setCells, Decision.enc, Decision.row, d5]
abbrev e5 : Event := ⟨5, 4, 0, 0, 0, 0, 1, 0, 0⟩
theorem fe5 : [PV.int 5, .int 4, .int 0, .int 0, .int 0, .int 0, .int 1, .int 0, .int 0] = e5.enc := rfl
abbrev ddA : Decision := ⟨1, 9, 1, 3, 0, 0, 0, 0, 0, 0, 0, 0, 0, 0⟩
theorem fdA : ([.int 1, .int 9, .int 1, .int 3, .int 0, .int 0, .int 0, .int 0, .int 0, .int 0, .int 0, .int 0, .int 0, .int 0] : List PV) = ddA.enc := rfl
abbrev ddB : Decision := ⟨2, 4, 2, 4, 8, 0, 0, 0, 0, 0, 0, 0, 0, 0⟩
theorem fdB : ([.int 2, .int 4, .int 2, .int 4, .int 8, .int 0, .int 0, .int 0, .int 0, .int 0, .int 0, .int 0, .int 0, .int 0] : List PV) = ddB.enc := rfl
abbrev ddD : Decision := ⟨8, 4, 2, 5, 7, 0, 0, 0, 0, 0, 0, 0, 0, 0⟩
theorem fdD : ([.int 8, .int 4, .int 2, .int 5, .int 7, .int 0, .int 0, .int 0, .int 0, .int 0, .int 0, .int 0, .int 0, .int 0] : List PV) = ddD.enc := rfl
abbrev ddC : Decision := ⟨7, 20, 3, 0, 0, 3, 1, 0, 0, 0, 0, 9, 0, 0⟩
theorem fdC : setCells ([.int 7, .int 20, .int 3, .int 0, .int 0, .int 0, .int 0, .int 0, .int 0, .int 0, .int 0, .int 0, .int 0, .int 0] : List PV) 5 (markE 3 9).enc = ddC.enc := rfl
abbrev ddE : Decision := ⟨9, 4, 3, 0, 0, 1, 1, 0, 0, 0, 0, 2, 0, 0⟩
theorem fdE : setCells ([.int 9, .int 4, .int 3, .int 0, .int 0, .int 0, .int 0, .int 0, .int 0, .int 0, .int 0, .int 0, .int 0, .int 0] : List PV) 5 (markE 1 2).enc = ddE.enc := rfl
abbrev exL : List Event := l3 (markE 3 5) (markE 4 6) e5
abbrev exD : List Decision := d5 ddA ddB ddC ddD ddE
theorem A0 : applyL [] [] 0 = [] ∧ applyN [] [] 0 = 0 := by decide
theorem A1 : applyL exL exD 3 = exL ∧ applyN exL exD 3 = 0 := by decide
theorem A2 : applyL exL exD 4 = l4 (markE 1 2) (markE 3 5) (markE 4 8) e5 ∧ applyN exL exD 4 = 0 := by decide
theorem A3 : applyL exL exD 9 = l3 (markE 1 2) (markE 4 8) e5 ∧ applyN exL exD 9 = 0 := by decide
theorem A4 : applyL exL exD 20 = l4 (markE 1 2) (markE 3 9) (markE 4 8) e5 ∧ applyN exL exD 20 = 0 := by decide
theorem A5 : standL exD 8 = d3 ddB ddD ddE ∧ standN exD 8 = 0 := by decide
theorem A6 : standL exD 9 = d4 ddB ddD ddE ddA ∧ standN exD 9 = 0 := by decide
theorem A7 : standN [] (-1) = 1 ∧ standL [] (-1) = [] := by decide
theorem A8 : checkD exD = 0 ∧ checkD (d1 ⟨0, 0, 4, 0, 0, 0, 0, 0, 0, 0, 0, 0, 0, 0⟩) = 510 := by decide
end Go.Proofs.Ythkjdppifnmakaa
/- The chapter's examples are as they should be. -/
namespace Go.Proofs.Ythkjdppifnmakaa
open Go.Pv
set_option maxRecDepth 100000
set_option maxHeartbeats 4000000
theorem same_l (ta tb : Bool) (a b : List Event) (hl : a.length ≤ 100000) (hab : a = b) (st : Store) : Rets P F.podiumref51_Same [Event.lst ta a, Event.lst tb b] st (.bool true) := by
  have := same_spec ta tb a b hl st
  rw [decide_eq_true hab] at this
  exact this
theorem sameD_l (ta tb : Bool) (a b : List Decision) (hl : a.length ≤ 100000) (hab : a = b) (st : Store) : Rets P F.podiumref51_SameDecisions [Decision.lst ta a, Decision.lst tb b] st (.bool true) := by
  have := sameD_spec ta tb a b hl st
  rw [decide_eq_true hab] at this
  exact this
theorem PLe.nilE : PLe .nil (Event.lst true []) := .nil
theorem PLe.nilD : PLe .nil (Decision.lst true []) := .nil
theorem apply00 (st : Store) : Rets P F.appeals_Apply [.nil, .nil, .int 0] st (.tuple [Event.lst false [], .int 0]) := by
  have h := apply_spec true true [] [] 0 (.inl (by simp)) st
  rw [A0.1, A0.2] at h
  exact h.args (show PsLe [.nil, .nil, .int 0] [Event.lst true [], Decision.lst true [], .int 0] from ⟨PLe.nilE, PLe.nilD, .refl _, trivial⟩)
theorem standing00 (st : Store) : Rets P F.appeals_Standing [.nil, .int (-1)] st (.tuple [Decision.lst false [], .int 1]) := by
  have h := standing_spec true [] (-1) (.inl (by simp)) st
  rw [A7.1, A7.2] at h
  exact h.args (show PsLe [.nil, .int (-1)] [Decision.lst true [], .int (-1)] from ⟨PLe.nilD, .refl _, trivial⟩)
theorem subL2 : sub (Event.row (l3 (markE 3 5) (markE 4 6) e5)) 18 9 = some e5.enc := rfl
theorem subD0 : sub (Decision.row (d5 ddA ddB ddC ddD ddE)) 0 14 = some ddA.enc := rfl
theorem subD1 : sub (Decision.row (d5 ddA ddB ddC ddD ddE)) 14 14 = some ddB.enc := rfl
theorem subD3 : sub (Decision.row (d5 ddA ddB ddC ddD ddE)) 42 14 = some ddD.enc := rfl
theorem subD4 : sub (Decision.row (d5 ddA ddB ddC ddD ddE)) 56 14 = some ddE.enc := rfl
theorem f4 : ([PV.int 0, .int 0, .int 4, .int 0, .int 0, .int 0, .int 0, .int 0, .int 0, .int 0, .int 0, .int 0, .int 0, .int 0] : List PV) = (Decision.mk 0 0 4 0 0 0 0 0 0 0 0 0 0 0).enc := rfl
theorem sane_spec (st : Store) : Rets P F.podiumlaw51_sane [] st (.bool true) := by
  refine (H.podiumlaw51_sane).pure hmix rfl rfl ?_
  have a1 := fun st => apply_spec true true exL exD 3 (.inl (by decide)) st
  have a2 := fun st => apply_spec true true exL exD 4 (.inl (by decide)) st
  have a3 := fun st => apply_spec true true exL exD 9 (.inl (by decide)) st
  have a4 := fun st => apply_spec true true exL exD 20 (.inl (by decide)) st
  have a5 := fun st => standing_spec true exD 8 (.inl (by decide)) st
  have a6 := fun st => standing_spec true exD 9 (.inl (by decide)) st
  rw [A1.1, A1.2] at a1
  rw [A2.1, A2.2] at a2
  rw [A3.1, A3.2] at a3
  rw [A4.1, A4.2] at a4
  rw [A5.1, A5.2] at a5
  rw [A6.1, A6.2] at a6
  have c1 := fun st => checkD_spec true exD st
  have c2 := fun st => checkD_spec true (d1 ⟨0, 0, 4, 0, 0, 0, 0, 0, 0, 0, 0, 0, 0, 0⟩) st
  rw [A8.1] at c1
  rw [A8.2] at c2
  have s1 := fun ta tb st => same_l ta tb exL exL (by decide) rfl st
  have s2 := fun ta tb st => same_l ta tb (l4 (markE 1 2) (markE 3 5) (markE 4 8) e5) _ (by decide) rfl st
  have s3 := fun ta tb st => same_l ta tb (l3 (markE 1 2) (markE 4 8) e5) _ (by decide) rfl st
  have s4 := fun ta tb st => same_l ta tb (l4 (markE 1 2) (markE 3 9) (markE 4 8) e5) _ (by decide) rfl st
  have s5 := fun ta tb st => sameD_l ta tb (d3 ddB ddD ddE) _ (by decide) rfl st
  have s6 := fun ta tb st => sameD_l ta tb (d4 ddB ddD ddE ddA) _ (by decide) rfl st
  have hl : exL.length = 3 := rfl
  have hd : exD.length = 5 := rfl
  repeat' (first
    | (with_reducible refine Fresh.intro fun b hb => ?_) <;> (try simp -dsimp -implicitDefEqProofs [*] at hb)
    | (with_reducible refine Rets.xcall (mark_spec ..) ?_)
    | (with_reducible refine Rets.xsoft (mark_spec ..) ?_)
    | (with_reducible refine xlateCall_of (fun _ => mark_spec ..) ?_)
    | (with_reducible refine Rets.xcall (apply00 _) ?_)
    | (with_reducible refine Rets.xsoft (apply00 _) ?_)
    | (with_reducible refine xlateCall_of (fun _ => apply00 _) ?_)
    | (with_reducible refine Rets.xcall (standing00 _) ?_)
    | (with_reducible refine Rets.xsoft (standing00 _) ?_)
    | (with_reducible refine xlateCall_of (fun _ => standing00 _) ?_)
    | (with_reducible refine Rets.xcall (a1 _) ?_)
    | (with_reducible refine Rets.xsoft (a1 _) ?_)
    | (with_reducible refine xlateCall_of (fun _ => a1 _) ?_)
    | (with_reducible refine Rets.xcall (a2 _) ?_)
    | (with_reducible refine Rets.xsoft (a2 _) ?_)
    | (with_reducible refine xlateCall_of (fun _ => a2 _) ?_)
    | (with_reducible refine Rets.xcall (a3 _) ?_)
    | (with_reducible refine Rets.xsoft (a3 _) ?_)
    | (with_reducible refine xlateCall_of (fun _ => a3 _) ?_)
    | (with_reducible refine Rets.xcall (a4 _) ?_)
    | (with_reducible refine Rets.xsoft (a4 _) ?_)
    | (with_reducible refine xlateCall_of (fun _ => a4 _) ?_)
    | (with_reducible refine Rets.xcall (a5 _) ?_)
    | (with_reducible refine Rets.xsoft (a5 _) ?_)
    | (with_reducible refine xlateCall_of (fun _ => a5 _) ?_)
    | (with_reducible refine Rets.xcall (a6 _) ?_)
    | (with_reducible refine Rets.xsoft (a6 _) ?_)
    | (with_reducible refine xlateCall_of (fun _ => a6 _) ?_)
    | (with_reducible refine Rets.xcall (s1 _ _ _) ?_)
    | (with_reducible refine Rets.xsoft (s1 _ _ _) ?_)
    | (with_reducible refine xlateCall_of (fun _ => s1 _ _ _) ?_)
    | (with_reducible refine Rets.xcall (s2 _ _ _) ?_)
    | (with_reducible refine Rets.xsoft (s2 _ _ _) ?_)
    | (with_reducible refine xlateCall_of (fun _ => s2 _ _ _) ?_)
    | (with_reducible refine Rets.xcall (s3 _ _ _) ?_)
    | (with_reducible refine Rets.xsoft (s3 _ _ _) ?_)
    | (with_reducible refine xlateCall_of (fun _ => s3 _ _ _) ?_)
    | (with_reducible refine Rets.xcall (s4 _ _ _) ?_)
    | (with_reducible refine Rets.xsoft (s4 _ _ _) ?_)
    | (with_reducible refine xlateCall_of (fun _ => s4 _ _ _) ?_)
    | (with_reducible refine Rets.xcall (s5 _ _ _) ?_)
    | (with_reducible refine Rets.xsoft (s5 _ _ _) ?_)
    | (with_reducible refine xlateCall_of (fun _ => s5 _ _ _) ?_)
    | (with_reducible refine Rets.xcall (s6 _ _ _) ?_)
    | (with_reducible refine Rets.xsoft (s6 _ _ _) ?_)
    | (with_reducible refine xlateCall_of (fun _ => s6 _ _ _) ?_)
    | (with_reducible refine Rets.xcall (c1 _) ?_)
    | (with_reducible refine Rets.xsoft (c1 _) ?_)
    | (with_reducible refine xlateCall_of (fun _ => c1 _) ?_)
    | (with_reducible refine Rets.xcall (c2 _) ?_)
    | (with_reducible refine Rets.xsoft (c2 _) ?_)
    | (with_reducible refine xlateCall_of (fun _ => c2 _) ?_)
    | (with_reducible refine Lit.imm ?_)
    | ((with_reducible refine Grow.intro ?_ fun b cap hb hc1 hc2 => ?_); omega) <;> (try simp -dsimp -implicitDefEqProofs [*] at hb)
    | (with_reducible refine DrawLate.intro [] ?_)
    | (with_reducible refine Cls_and ?_ ?_)
    | (with_reducible exact Cls.self _ _)
    | (with_reducible refine Cls_same ?_)
    | (with_reducible refine Cls_in ?_ ?_)
    | (with_reducible refine Cls_fresh ?_ ?_)
    | (with_reducible refine And.intro (fun h => ?_) (fun h => ?_)) <;> (try (exfalso; omega))
    | (with_reducible refine And.intro (fun h => ?_) ?_) <;> (try (exfalso; omega))
    | ((with_reducible refine and_keep ?_ fun hk => ?_); omega)
    | (simp -dsimp -implicitDefEqProofs [fe5, fdA, fdB, fdC, fdD, fdE, fold3, fold4, foldD5, foldD3, foldD4, foldD1, subL2, subD0, subD1, subD3, subD4, f4, *]))

end Go.Proofs.Ythkjdppifnmakaa
