/- The chapter's examples are as they should be. -/
import Derived.Test.YtahdhdgglbcagaaS49H
namespace Go.Proofs.Ytahdhdgglbcagaa
open Go.Pv
set_option maxRecDepth 100000
set_option maxHeartbeats 4000000
theorem same_l (ta tb : Bool) (a b : List Event) (hl : a.length ≤ 100000) (hab : a = b) (st : Store) : Rets P F.podiumref49_Same [Event.lst ta a, Event.lst tb b] st (.bool true) := by
  have := same_spec ta tb a b hl st
  rw [decide_eq_true hab] at this
  exact this
theorem sane_spec (st : Store) : Rets P F.podiumlaw49_sane [] st (.bool true) := by
  refine (H.podiumlaw49_sane).pure hmix rfl rfl ?_
  repeat' (first
    | (with_reducible refine Fresh.intro fun b hb => ?_) <;> (try simp -dsimp -implicitDefEqProofs [*] at hb)
    | (with_reducible refine Rets.xcall (mark_spec ..) ?_)
    | (with_reducible refine Rets.xsoft (mark_spec ..) ?_)
    | (with_reducible refine xlateCall_of (fun _ => mark_spec ..) ?_)
    | (with_reducible refine Lit.imm ?_)
    | ((with_reducible refine Grow.intro ?_ fun b cap hb hc1 hc2 => ?_); omega) <;> (try simp -dsimp -implicitDefEqProofs [*] at hb)
    | (with_reducible refine DrawLate.intro [] ?_)
    | (with_reducible refine Cls_and ?_ ?_)
    | (with_reducible exact Cls.self _ _)
    | (with_reducible refine Cls_same ?_)
    | (with_reducible refine Cls_in ?_ ?_)
    | (with_reducible refine Cls_fresh ?_ ?_)
    | (with_reducible refine And.intro (fun h => ?_) (fun h => ?_)) <;> (try (exfalso; omega))
    | (with_reducible refine And.intro (fun h => ?_) ?_) <;> (try (exfalso; omega))
    | ((with_reducible refine and_keep ?_ fun hk => ?_); omega)
    | (simp -dsimp -implicitDefEqProofs [fold1, fold2, fold3, fold0, *]))
  rename_i b1 hb1 b2 hb2
  obtain ⟨l1a, l1b⟩ := L1
  obtain ⟨l2a, l2b⟩ := L2
  obtain ⟨l3a, l3b⟩ := L3
  obtain ⟨l4a, l4b⟩ := L4
  obtain ⟨l5a, l5b⟩ := L5
  have l6 := L6
  obtain ⟨l7a, l7b⟩ := L7
  have l8 := L8
  have l9 := L9
  obtain ⟨l10a, l10b, l10c⟩ := L10
  generalize hx : l3 eA eO eB = X at *
  generalize hy : l2 eA eO = Y at *
  generalize hz : l2 eO eB = Z at *
  generalize hw : l1 eO = W at *
  have lX : X.length ≤ 100000 := by subst hx; decide
  have lY : Y.length ≤ 100000 := by subst hy; decide
  have lZ : Z.length ≤ 100000 := by subst hz; decide
  have lW : W.length ≤ 100000 := by subst hw; decide
  clear hy hz hw
  refine xloop_for (σ := Nat) (fun i => [(44, PV.int i), (43, PV.int 4), (42, PV.list true [.int 6, .int 8, Event.lst true Y, .int 6, .int 9, Event.lst true Z, .int 3, .int 9, Event.lst true Y, .int 2, .int 9, Event.lst true W] 4), (4, Event.lst true X), (3, PV.ptr b 0), (2, PV.ptr b2 0), (1, PV.ptr b1 0), (0, PV.bool false)]) (fun _ => (b, PObj.arr T.apiEvent eO.enc) :: (b2, PObj.arr T.apiEvent eB.enc) :: (b1, PObj.arr T.apiEvent eA.enc) :: st) (fun i => i ≤ 4) (fun i => 4 - i) 0 (by omega) (by simp) (by simp) ?_
  intro i hi
  have h5 : i = 0 ∨ i = 1 ∨ i = 2 ∨ i = 3 ∨ i = 4 := by omega
  clear hi
  rcases h5 with rfl | rfl | rfl | rfl | rfl
  · repeat' (first
      | (with_reducible refine Fresh.intro fun b hb => ?_) <;> (try simp -dsimp -implicitDefEqProofs [*] at hb)
      | (with_reducible refine Rets.xcall (standing_spec ..) ?_)
      | (with_reducible refine Rets.xsoft (standing_spec ..) ?_)
      | (with_reducible refine xlateCall_of (fun _ => standing_spec ..) ?_)
      | (with_reducible refine Rets.xcall (same_l _ _ Y Y lY rfl _) ?_)
      | (with_reducible refine Rets.xsoft (same_l _ _ Y Y lY rfl _) ?_)
      | (with_reducible refine xlateCall_of (fun _ => same_l _ _ Y Y lY rfl _) ?_)
      | (with_reducible refine Lit.imm ?_)
      | ((with_reducible refine Grow.intro ?_ fun b cap hb hc1 hc2 => ?_); omega) <;> (try simp -dsimp -implicitDefEqProofs [*] at hb)
      | (with_reducible refine DrawLate.intro [] ?_)
      | (with_reducible refine Cls_and ?_ ?_)
      | (with_reducible exact Cls.self _ _)
      | (with_reducible refine Cls_same ?_)
      | (with_reducible refine Cls_in ?_ ?_)
      | (with_reducible refine Cls_fresh ?_ ?_)
      | (with_reducible refine And.intro (fun h => ?_) (fun h => ?_)) <;> (try (exfalso; omega))
      | (with_reducible refine And.intro (fun h => ?_) ?_) <;> (try (exfalso; omega))
      | ((with_reducible refine and_keep ?_ fun hk => ?_); omega)
      | (simp -dsimp -implicitDefEqProofs [*]))
    refine Next.intro 1 (by omega) (by omega) (by simp; exact wrap_in (by omega) (by omega)) (by repeat' (first | exact StLe.refl _ | (refine StLe_cons (by simp [*]; done) ?_) | (refine StLe_fresh (by simp [*]; done) ?_)))
  · repeat' (first
      | (with_reducible refine Fresh.intro fun b hb => ?_) <;> (try simp -dsimp -implicitDefEqProofs [*] at hb)
      | (with_reducible refine Rets.xcall (standing_spec ..) ?_)
      | (with_reducible refine Rets.xsoft (standing_spec ..) ?_)
      | (with_reducible refine xlateCall_of (fun _ => standing_spec ..) ?_)
      | (with_reducible refine Rets.xcall (same_l _ _ Z Z lZ rfl _) ?_)
      | (with_reducible refine Rets.xsoft (same_l _ _ Z Z lZ rfl _) ?_)
      | (with_reducible refine xlateCall_of (fun _ => same_l _ _ Z Z lZ rfl _) ?_)
      | (with_reducible refine Lit.imm ?_)
      | ((with_reducible refine Grow.intro ?_ fun b cap hb hc1 hc2 => ?_); omega) <;> (try simp -dsimp -implicitDefEqProofs [*] at hb)
      | (with_reducible refine DrawLate.intro [] ?_)
      | (with_reducible refine Cls_and ?_ ?_)
      | (with_reducible exact Cls.self _ _)
      | (with_reducible refine Cls_same ?_)
      | (with_reducible refine Cls_in ?_ ?_)
      | (with_reducible refine Cls_fresh ?_ ?_)
      | (with_reducible refine And.intro (fun h => ?_) (fun h => ?_)) <;> (try (exfalso; omega))
      | (with_reducible refine And.intro (fun h => ?_) ?_) <;> (try (exfalso; omega))
      | ((with_reducible refine and_keep ?_ fun hk => ?_); omega)
      | (simp -dsimp -implicitDefEqProofs [*]))
    refine Next.intro 2 (by omega) (by omega) (by simp; exact wrap_in (by omega) (by omega)) (by repeat' (first | exact StLe.refl _ | (refine StLe_cons (by simp [*]; done) ?_) | (refine StLe_fresh (by simp [*]; done) ?_)))
  · repeat' (first
      | (with_reducible refine Fresh.intro fun b hb => ?_) <;> (try simp -dsimp -implicitDefEqProofs [*] at hb)
      | (with_reducible refine Rets.xcall (standing_spec ..) ?_)
      | (with_reducible refine Rets.xsoft (standing_spec ..) ?_)
      | (with_reducible refine xlateCall_of (fun _ => standing_spec ..) ?_)
      | (with_reducible refine Rets.xcall (same_l _ _ Y Y lY rfl _) ?_)
      | (with_reducible refine Rets.xsoft (same_l _ _ Y Y lY rfl _) ?_)
      | (with_reducible refine xlateCall_of (fun _ => same_l _ _ Y Y lY rfl _) ?_)
      | (with_reducible refine Lit.imm ?_)
      | ((with_reducible refine Grow.intro ?_ fun b cap hb hc1 hc2 => ?_); omega) <;> (try simp -dsimp -implicitDefEqProofs [*] at hb)
      | (with_reducible refine DrawLate.intro [] ?_)
      | (with_reducible refine Cls_and ?_ ?_)
      | (with_reducible exact Cls.self _ _)
      | (with_reducible refine Cls_same ?_)
      | (with_reducible refine Cls_in ?_ ?_)
      | (with_reducible refine Cls_fresh ?_ ?_)
      | (with_reducible refine And.intro (fun h => ?_) (fun h => ?_)) <;> (try (exfalso; omega))
      | (with_reducible refine And.intro (fun h => ?_) ?_) <;> (try (exfalso; omega))
      | ((with_reducible refine and_keep ?_ fun hk => ?_); omega)
      | (simp -dsimp -implicitDefEqProofs [*]))
    refine Next.intro 3 (by omega) (by omega) (by simp; exact wrap_in (by omega) (by omega)) (by repeat' (first | exact StLe.refl _ | (refine StLe_cons (by simp [*]; done) ?_) | (refine StLe_fresh (by simp [*]; done) ?_)))
  · repeat' (first
      | (with_reducible refine Fresh.intro fun b hb => ?_) <;> (try simp -dsimp -implicitDefEqProofs [*] at hb)
      | (with_reducible refine Rets.xcall (standing_spec ..) ?_)
      | (with_reducible refine Rets.xsoft (standing_spec ..) ?_)
      | (with_reducible refine xlateCall_of (fun _ => standing_spec ..) ?_)
      | (with_reducible refine Rets.xcall (same_l _ _ W W lW rfl _) ?_)
      | (with_reducible refine Rets.xsoft (same_l _ _ W W lW rfl _) ?_)
      | (with_reducible refine xlateCall_of (fun _ => same_l _ _ W W lW rfl _) ?_)
      | (with_reducible refine Lit.imm ?_)
      | ((with_reducible refine Grow.intro ?_ fun b cap hb hc1 hc2 => ?_); omega) <;> (try simp -dsimp -implicitDefEqProofs [*] at hb)
      | (with_reducible refine DrawLate.intro [] ?_)
      | (with_reducible refine Cls_and ?_ ?_)
      | (with_reducible exact Cls.self _ _)
      | (with_reducible refine Cls_same ?_)
      | (with_reducible refine Cls_in ?_ ?_)
      | (with_reducible refine Cls_fresh ?_ ?_)
      | (with_reducible refine And.intro (fun h => ?_) (fun h => ?_)) <;> (try (exfalso; omega))
      | (with_reducible refine And.intro (fun h => ?_) ?_) <;> (try (exfalso; omega))
      | ((with_reducible refine and_keep ?_ fun hk => ?_); omega)
      | (simp -dsimp -implicitDefEqProofs [*]))
    refine Next.intro 4 (by omega) (by omega) (by simp; exact wrap_in (by omega) (by omega)) (by repeat' (first | exact StLe.refl _ | (refine StLe_cons (by simp [*]; done) ?_) | (refine StLe_fresh (by simp [*]; done) ?_)))
  · clear l1a l2a l3a l4a l1b l2b l3b l4b
    repeat' (first
      | (with_reducible refine Fresh.intro fun b hb => ?_) <;> (try simp -dsimp -implicitDefEqProofs [*] at hb)
      | (with_reducible refine Rets.xcall (Rets.nil0 (standing_spec true [] 0 0 _)) ?_)
      | (with_reducible refine Rets.xsoft (Rets.nil0 (standing_spec true [] 0 0 _)) ?_)
      | (with_reducible refine xlateCall_of (fun _ => Rets.nil0 (standing_spec true [] 0 0 _)) ?_)
      | (with_reducible refine Rets.xcall (standing_spec ..) ?_)
      | (with_reducible refine Rets.xsoft (standing_spec ..) ?_)
      | (with_reducible refine xlateCall_of (fun _ => standing_spec ..) ?_)
      | (with_reducible refine Rets.xcall (Rets.nil0 (add_spec true [] _ _)) ?_)
      | (with_reducible refine Rets.xsoft (Rets.nil0 (add_spec true [] _ _)) ?_)
      | (with_reducible refine xlateCall_of (fun _ => Rets.nil0 (add_spec true [] _ _)) ?_)
      | (with_reducible refine Rets.xcall (add_spec ..) ?_)
      | (with_reducible refine Rets.xsoft (add_spec ..) ?_)
      | (with_reducible refine xlateCall_of (fun _ => add_spec ..) ?_)
      | (with_reducible refine Rets.xcall (same_l _ _ X X lX rfl _) ?_)
      | (with_reducible refine Rets.xsoft (same_l _ _ X X lX rfl _) ?_)
      | (with_reducible refine xlateCall_of (fun _ => same_l _ _ X X lX rfl _) ?_)
      | (with_reducible refine Rets.xcall (check_spec ..) ?_)
      | (with_reducible refine Rets.xsoft (check_spec ..) ?_)
      | (with_reducible refine xlateCall_of (fun _ => check_spec ..) ?_)
      | (with_reducible refine Rets.xcall (mark_spec ..) ?_)
      | (with_reducible refine Rets.xsoft (mark_spec ..) ?_)
      | (with_reducible refine xlateCall_of (fun _ => mark_spec ..) ?_)
      | (with_reducible refine Lit.imm ?_)
      | ((with_reducible refine Grow.intro ?_ fun b cap hb hc1 hc2 => ?_); omega) <;> (try simp -dsimp -implicitDefEqProofs [*] at hb)
      | (with_reducible refine DrawLate.intro [] ?_)
      | (with_reducible refine Cls_and ?_ ?_)
      | (with_reducible exact Cls.self _ _)
      | (with_reducible refine Cls_same ?_)
      | (with_reducible refine Cls_in ?_ ?_)
      | (with_reducible refine Cls_fresh ?_ ?_)
      | (with_reducible refine And.intro (fun h => ?_) (fun h => ?_)) <;> (try (exfalso; omega))
      | (with_reducible refine And.intro (fun h => ?_) ?_) <;> (try (exfalso; omega))
      | ((with_reducible refine and_keep ?_ fun hk => ?_); omega)
      | (simp -dsimp -implicitDefEqProofs [fold0, fold1, fold2, fold3, *]))
end Go.Proofs.Ytahdhdgglbcagaa
