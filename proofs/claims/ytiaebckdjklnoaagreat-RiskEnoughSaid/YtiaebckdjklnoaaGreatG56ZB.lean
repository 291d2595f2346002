/- Bits counted; chances and limits. -/
import Derived.Test.YtiaebckdjklnoaaGreatG56ZA
import Derived.Test.YtiaebckdjklnoaaGreatG56T
import Derived.Test.YtiaebckdjklnoaaGreatLBn
namespace Go.Proofs.YtiaebckdjklnoaaGreat
open Go.Pv
set_option maxRecDepth 100000
set_option maxHeartbeats 8000000
/-- Is a chance greater than a limit? -/
theorem greater_spec (n w k : Nat) (hn : n ≤ 40) (hw : w ≤ n) (hk : k ≤ n) (t1 t2 : Bool) (q : Rat) (h1 : dl q.num.natAbs ≤ 17) (h2 : dl q.den ≤ 17) (st : Store) :
    Rets P F.podiumlaw56_greater [.int n, .int w, .int k, .agg (rC t1 t2 q)] st (.tuple [.bool (decide (q < missR n w k)), .bool true]) := by
  have cm := miss_spec n w k (by omega) hw hk
  obtain ⟨m1, m2⟩ := missR_small (w := w) (show n ≤ 4096 by omega) hk
  have d1 := dl_pow (show k ≤ 40 by omega) m1
  have d2 := dl_pow (show k ≤ 40 by omega) m2
  have cc := ratCmp_spec false false t1 t2 (missR n w k) q ⟨by omega, by omega⟩ ⟨by omega, by omega⟩ (Nat.le_trans (dl_mul_nat _ _) (by omega)) (Nat.le_trans (dl_mul_nat _ _) (by omega))
  have e : decide (q < missR n w k) = decide (0 < cmpR (missR n w k) q) := decide_eq_decide.2 (by
    have := cmpR_le (a := missR n w k) (b := q)
    rw [← Rat.not_le, ← this]; omega)
  rw [e]
  obtain ⟨c, hc⟩ : ∃ c, c = cmpR (missR n w k) q := ⟨_, rfl⟩
  obtain ⟨X, hX⟩ : ∃ X, X = rC false false (missR n w k) := ⟨_, rfl⟩
  obtain ⟨Q, hQ⟩ : ∃ X, X = rC t1 t2 q := ⟨_, rfl⟩
  have lX : X.length = 4 := by rw [hX]; rfl
  have lQ : Q.length = 4 := by rw [hQ]; rfl
  rw [← hX] at cm
  rw [← hX, ← hQ, ← hc] at cc
  rw [← hQ, ← hc]
  have fX := cells_sub lX
  have fQ := cells_sub lQ
  have aX : setCells [.bool false, .nil, .bool false, .nil] 0 X = X := setCells_all X _ lX
  clear hc hX hQ e d1 d2 m1 m2 h1 h2
  refine H.podiumlaw56_greater.view hmix rfl rfl ?_
  repeat' (first 
   | (with_reducible refine Fresh.intro fun b hb => ?_) <;> (try simp -dsimp -implicitDefEqProofs [*] at hb)
   | (with_reducible refine Rets.xcall (cm _) ?_)
   | (with_reducible refine Rets.xcall (cc _) ?_)
   | (simp -dsimp -implicitDefEqProofs [*]))
  exact RetView.drop (st' := st) (by repeat' (first | exact StLe.refl _ | (refine StLe_cons (by simp [*]; done) ?_) | (refine StLe_fresh (by simp [*]; done) ?_))) ⟨rfl, rfl⟩
end Go.Proofs.YtiaebckdjklnoaaGreat
