/- Bits counted; chances and limits. -/
import Derived.Test.YtiaebckdjklnoaaS56ZA
import Derived.Test.YtiaebckdjklnoaaS56T
import Derived.Test.YtiaebckdjklnoaaLBn
namespace Go.Proofs.Ytiaebckdjklnoaa
open Go.Pv
set_option maxRecDepth 100000
set_option maxHeartbeats 8000000
theorem pop_step {f m : Nat} (h : m < 2 ^ f) (hm : 0 < m) : pop f m = m % 2 + pop f (m / 2) := by
  cases f with
  | zero => simp at h; omega
  | succ f =>
    rw [pop]
    congr 1
    rw [Nat.pow_succ] at h
    exact pop_fuel (by omega) (by rw [Nat.pow_succ]; omega)
theorem count_spec (f n : Nat) (h : n < 2 ^ f) (hf : f ≤ 40) (st : Store) : Rets P F.podiumlaw56_count [.int n] st (.int (pop f n)) := by
  refine H.podiumlaw56_count.pure hmix rfl rfl ?_
  have hp := pop_le f n
  have hq : 2 ^ f ≤ 2 ^ 40 := Nat.pow_le_pow_right (by decide) hf
  have hn : n ≤ 1099511627776 := by omega
  obtain ⟨R, hR⟩ : ∃ R, R = pop f n := ⟨_, rfl⟩
  rw [← hR] at hp ⊢
  have kR : Hid (R = pop f n ∧ n < 2 ^ f) := ⟨hR, h⟩
  clear hR h hq
  repeat' (simp -dsimp -implicitDefEqProofs [*])
  refine xloop_for (fun y : Nat × Nat => [(0, .int y.1), (3, .int y.2), (2, .int 0)]) (fun _ => st) (fun y => y.1 ≤ 1099511627776 ∧ y.2 ≤ 40 ∧ Hid (y.1 < 2 ^ f ∧ y.2 + pop f y.1 = R)) (fun y => y.1) (n, 0) ⟨hn, by simp, ⟨kR.out.2, by rw [kR.out.1]; simp⟩⟩ (by simp) (.refl _) ?_
  rintro ⟨m, c⟩ ⟨h1, h2, h3⟩
  simp only at h1 h2 h3 ⊢
  by_cases hm : 0 < m
  · have e1 : ((m : Int)).tmod 2 = ((m % 2 : Nat) : Int) := (Int.ofNat_tmod m 2).symm
    have e2 : ((m : Int)).tdiv 2 = ((m / 2 : Nat) : Int) := (Int.ofNat_tdiv m 2).symm
    have x1 : IntKind.i64.wrap (((m / 2 : Nat) : Int)) = ((m / 2 : Nat) : Int) := wrap_in (by omega) (by omega)
    have x2 : IntKind.i64.wrap ((c : Int) + ((m % 2 : Nat) : Int)) = ((c + m % 2 : Nat) : Int) := by rw [wrap_in (by omega) (by omega)]; omega
    have k2 : Hid (m / 2 < 2 ^ f ∧ (c + m % 2) + pop f (m / 2) = R) := ⟨Nat.lt_of_le_of_lt (Nat.div_le_self m 2) h3.out.1, by have := h3.out.2; rw [pop_step h3.out.1 hm] at this; omega⟩
    have k3 : c + m % 2 ≤ 40 := by have := k2.out.2; omega
    clear kR h3
    obtain ⟨u, hu⟩ : ∃ u, u = m / 2 := ⟨_, rfl⟩
    obtain ⟨v, hv⟩ : ∃ v, v = m % 2 := ⟨_, rfl⟩
    rw [← hu] at e2 x1 k2
    rw [← hv] at e1 x2 k2 k3
    have hlt : u < m := by omega
    clear hu hv
    repeat' (simp -dsimp -implicitDefEqProofs [*])
    exact Next.intro (u, c + v) ⟨by simp only; omega, k3, k2⟩ hlt (by simp) (.refl _)
  · have e : m = 0 := by omega
    subst e
    have e2 : c = R := by have := h3.out.2; rw [pop_zero] at this; omega
    subst e2
    clear h3 kR
    repeat' (simp -dsimp -implicitDefEqProofs [*])
/-- Is a chance greater than a limit? -/
theorem greater_spec (n w k : Nat) (hn : n ≤ 40) (hw : w ≤ n) (hk : k ≤ n) (t1 t2 : Bool) (q : Rat) (h1 : dl q.num.natAbs ≤ 17) (h2 : dl q.den ≤ 17) (st : Store) :
    Rets P F.podiumlaw56_greater [.int n, .int w, .int k, .agg (rC t1 t2 q)] st (.tuple [.bool (decide (q < missR n w k)), .bool true]) := by
  have cm := miss_spec n w k (by omega) hw hk
  obtain ⟨m1, m2⟩ := missR_small (w := w) (show n ≤ 4096 by omega) hk
  have d1 := dl_pow (show k ≤ 40 by omega) m1
  have d2 := dl_pow (show k ≤ 40 by omega) m2
  have cc := ratCmp_spec false false t1 t2 (missR n w k) q ⟨by omega, by omega⟩ ⟨by omega, by omega⟩ (Nat.le_trans (dl_mul_nat _ _) (by omega)) (Nat.le_trans (dl_mul_nat _ _) (by omega))
  have e : decide (q < missR n w k) = decide (0 < cmpR (missR n w k) q) := decide_eq_decide.2 (by
    have := cmpR_le (a := missR n w k) (b := q)
    rw [← Rat.not_le, ← this]; omega)
  rw [e]
  obtain ⟨c, hc⟩ : ∃ c, c = cmpR (missR n w k) q := ⟨_, rfl⟩
  obtain ⟨X, hX⟩ : ∃ X, X = rC false false (missR n w k) := ⟨_, rfl⟩
  obtain ⟨Q, hQ⟩ : ∃ X, X = rC t1 t2 q := ⟨_, rfl⟩
  have lX : X.length = 4 := by rw [hX]; rfl
  have lQ : Q.length = 4 := by rw [hQ]; rfl
  rw [← hX] at cm
  rw [← hX, ← hQ, ← hc] at cc
  rw [← hQ, ← hc]
  have fX := cells_sub lX
  have fQ := cells_sub lQ
  have aX : setCells [.bool false, .nil, .bool false, .nil] 0 X = X := setCells_all X _ lX
  clear hc hX hQ e d1 d2 m1 m2 h1 h2
  refine H.podiumlaw56_greater.view hmix rfl rfl ?_
  repeat' (first 
   | (with_reducible refine Fresh.intro fun b hb => ?_) <;> (try simp -dsimp -implicitDefEqProofs [*] at hb)
   | (with_reducible refine Rets.xcall (cm _) ?_)
   | (with_reducible refine Rets.xcall (cc _) ?_)
   | (simp -dsimp -implicitDefEqProofs [*]))
  exact RetView.drop (st' := st) (by repeat' (first | exact StLe.refl _ | (refine StLe_cons (by simp [*]; done) ?_) | (refine StLe_fresh (by simp [*]; done) ?_))) ⟨rfl, rfl⟩
end Go.Proofs.Ytiaebckdjklnoaa
