/- The chapter's examples. -/
import Derived.Test.YtbjfmedpaohpnaaS44F
namespace Go.Proofs.Ytbjfmedpaohpnaa
open Go.Pv
set_option maxRecDepth 100000
set_option maxHeartbeats 4000000
def l1 (x : Review) : List Review := [x]
theorem fold1 (t : Bool) (x : Review) : PV.list t x.enc 1 = Review.lst t (l1 x) := rfl
abbrev eO : Review := ⟨4, 8, 3, -1, 0⟩
abbrev eC : Review := ⟨4, 8, 3, 7, 2⟩
def zz : List Review := [⟨0, 0, 0, 0, 0⟩, ⟨0, 0, 0, 0, 0⟩]
theorem L1 : standL [] 5 = [] ∧ standN [] 5 = 0 ∧ standN [] (-1) = 1 ∧ closeN [] 0 0 1 = 1 := by decide
theorem L2 : openL [] 4 8 3 = l1 eO ∧ openN [] 4 8 3 = 0 ∧ openN (l1 eO) 4 0 0 = 141 := by decide
theorem L3 : closeL (l1 eO) 4 7 2 = l1 eC ∧ closeN (l1 eO) 4 7 2 = 0 ∧ closeN (l1 eC) 4 8 1 = 1 := by decide
theorem L4 : standL (l1 eC) 6 = l1 eC ∧ standN (l1 eC) 6 = 0 ∧ standL (l1 eC) 7 = [] ∧ standN (l1 eC) 7 = 0 := by decide
theorem L5 : checkE (l1 eC) = 0 ∧ checkE zz = 440 := by decide
theorem fits : (∀ e ∈ ([] : List Review), fit e) ∧ (∀ e ∈ l1 eO, fit e) ∧ (∀ e ∈ l1 eC, fit e) ∧ ∀ e ∈ zz, fit e := by
  simp [l1, zz, fit, I64]
theorem same_l (ta tb : Bool) (a b : List Review) (hl : a.length ≤ 100000) (hab : a = b) (st : Store) : Rets P F.podiumref44_Same [Review.lst ta a, Review.lst tb b] st (.bool true) := by
  have := same_spec ta tb a b hl st
  rw [decide_eq_true hab] at this
  exact this
theorem i64 (n : Int) (h1 : -9223372036854775808 ≤ n) (h2 : n ≤ 9223372036854775807) : I64 n := ⟨h1, h2⟩
theorem foldO (t : Bool) : PV.list t [.int 4, .int 8, .int 3, .int (-1), .int 0] 1 = Review.lst t (l1 eO) := rfl
theorem foldC (t : Bool) : PV.list t [.int 4, .int 8, .int 3, .int 7, .int 2] 1 = Review.lst t (l1 eC) := rfl
theorem foldZ (t : Bool) : PV.list t [.int 0, .int 0, .int 0, .int 0, .int 0, .int 0, .int 0, .int 0, .int 0, .int 0] 2 = Review.lst t zz := rfl
theorem sane_spec (st : Store) : Rets P F.podiumlaw44_sane [] st (.bool true) := by
  refine (H.podiumlaw44_sane).pure hmix rfl rfl ?_
  obtain ⟨a1, a2, a3, a4⟩ := L1
  obtain ⟨b1, b2, b3⟩ := L2
  obtain ⟨c1, c2, c3⟩ := L3
  obtain ⟨d1, d2, d3, d4⟩ := L4
  obtain ⟨e1, e2⟩ := L5
  obtain ⟨f1, f2, f3, f4⟩ := fits
  generalize hX : l1 eO = X at *
  generalize hY : l1 eC = Y at *
  generalize hZ : zz = Z at *
  have lX : X.length ≤ 100000 := by subst hX; decide
  have lY : Y.length ≤ 100000 := by subst hY; decide
  have hO : ∀ t, PV.list t [.int 4, .int 8, .int 3, .int (-1), .int 0] 1 = Review.lst t X := fun t => by rw [← hX]; rfl
  have hC : ∀ t, PV.list t [.int 4, .int 8, .int 3, .int 7, .int 2] 1 = Review.lst t Y := fun t => by rw [← hY]; rfl
  have hZ' : ∀ t, PV.list t [.int 0, .int 0, .int 0, .int 0, .int 0, .int 0, .int 0, .int 0, .int 0, .int 0] 2 = Review.lst t Z := fun t => by rw [← hZ]; rfl
  clear hX hY hZ
  repeat' (first
    | (with_reducible refine Fresh.intro fun b hb => ?_) <;> (try simp -dsimp -implicitDefEqProofs [*] at hb)
    | (with_reducible refine Rets.xcall (Rets.nil0 (standing_spec true [] f1 _ _)) ?_)
    | (with_reducible refine Rets.xsoft (Rets.nil0 (standing_spec true [] f1 _ _)) ?_)
    | (with_reducible refine xlateCall_of (fun _ => Rets.nil0 (standing_spec true [] f1 _ _)) ?_)
    | (with_reducible refine Rets.xcall (Rets.nil0 (close_spec true [] f1 _ _ _ (i64 1 (by omega) (by omega)) _)) ?_)
    | (with_reducible refine Rets.xsoft (Rets.nil0 (close_spec true [] f1 _ _ _ (i64 1 (by omega) (by omega)) _)) ?_)
    | (with_reducible refine xlateCall_of (fun _ => Rets.nil0 (close_spec true [] f1 _ _ _ (i64 1 (by omega) (by omega)) _)) ?_)
    | (with_reducible refine Rets.xcall (Rets.nil0 (open_spec true [] f1 _ _ _ _)) ?_)
    | (with_reducible refine Rets.xsoft (Rets.nil0 (open_spec true [] f1 _ _ _ _)) ?_)
    | (with_reducible refine xlateCall_of (fun _ => Rets.nil0 (open_spec true [] f1 _ _ _ _)) ?_)
    | (with_reducible refine Rets.xcall (open_spec _ X f2 _ _ _ _) ?_)
    | (with_reducible refine Rets.xsoft (open_spec _ X f2 _ _ _ _) ?_)
    | (with_reducible refine xlateCall_of (fun _ => open_spec _ X f2 _ _ _ _) ?_)
    | (with_reducible refine Rets.xcall (close_spec _ X f2 _ _ _ (i64 2 (by omega) (by omega)) _) ?_)
    | (with_reducible refine Rets.xsoft (close_spec _ X f2 _ _ _ (i64 2 (by omega) (by omega)) _) ?_)
    | (with_reducible refine xlateCall_of (fun _ => close_spec _ X f2 _ _ _ (i64 2 (by omega) (by omega)) _) ?_)
    | (with_reducible refine Rets.xcall (close_spec _ Y f3 _ _ _ (i64 1 (by omega) (by omega)) _) ?_)
    | (with_reducible refine Rets.xsoft (close_spec _ Y f3 _ _ _ (i64 1 (by omega) (by omega)) _) ?_)
    | (with_reducible refine xlateCall_of (fun _ => close_spec _ Y f3 _ _ _ (i64 1 (by omega) (by omega)) _) ?_)
    | (with_reducible refine Rets.xcall (standing_spec _ Y f3 _ _) ?_)
    | (with_reducible refine Rets.xsoft (standing_spec _ Y f3 _ _) ?_)
    | (with_reducible refine xlateCall_of (fun _ => standing_spec _ Y f3 _ _) ?_)
    | (with_reducible refine Rets.xcall (check_spec _ Y f3 _) ?_)
    | (with_reducible refine Rets.xsoft (check_spec _ Y f3 _) ?_)
    | (with_reducible refine xlateCall_of (fun _ => check_spec _ Y f3 _) ?_)
    | (with_reducible refine Rets.xcall (check_spec _ Z f4 _) ?_)
    | (with_reducible refine Rets.xsoft (check_spec _ Z f4 _) ?_)
    | (with_reducible refine xlateCall_of (fun _ => check_spec _ Z f4 _) ?_)
    | (with_reducible refine Rets.xcall (same_l _ _ X X lX rfl _) ?_)
    | (with_reducible refine Rets.xsoft (same_l _ _ X X lX rfl _) ?_)
    | (with_reducible refine xlateCall_of (fun _ => same_l _ _ X X lX rfl _) ?_)
    | (with_reducible refine Rets.xcall (same_l _ _ Y Y lY rfl _) ?_)
    | (with_reducible refine Rets.xsoft (same_l _ _ Y Y lY rfl _) ?_)
    | (with_reducible refine xlateCall_of (fun _ => same_l _ _ Y Y lY rfl _) ?_)
    | (with_reducible refine Lit.imm ?_)
    | ((with_reducible refine Grow.intro ?_ fun b cap hb hc1 hc2 => ?_); omega) <;> (try simp -dsimp -implicitDefEqProofs [*] at hb)
    | (with_reducible refine DrawLate.intro [] ?_)
    | (with_reducible refine Cls_and ?_ ?_)
    | (with_reducible exact Cls.self _ _)
    | (with_reducible refine Cls_same ?_)
    | (with_reducible refine Cls_in ?_ ?_)
    | (with_reducible refine Cls_fresh ?_ ?_)
    | (with_reducible refine And.intro (fun h => ?_) (fun h => ?_)) <;> (try (exfalso; omega))
    | (with_reducible refine And.intro (fun h => ?_) ?_) <;> (try (exfalso; omega))
    | ((with_reducible refine and_keep ?_ fun hk => ?_); omega)
    | (simp -dsimp -implicitDefEqProofs [*]))
  all_goals exact wrap_in (by omega) (by omega)
end Go.Proofs.Ytbjfmedpaohpnaa
