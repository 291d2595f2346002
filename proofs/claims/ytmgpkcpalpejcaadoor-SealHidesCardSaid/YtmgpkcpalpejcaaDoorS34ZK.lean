/- Calculating modulo the prime; values of a polynomial. -/
import Derived.Test.YtmgpkcpalpejcaaDoorS34ZF
import Derived.Test.YtmgpkcpalpejcaaDoorLIp
namespace Go.Proofs.YtmgpkcpalpejcaaDoor
open Go.Pv Go.Pv.Sha Go.Pv.Ip
set_option maxRecDepth 100000
set_option maxHeartbeats 4000000
theorem tmodQ (n : Int) : n.tmod 1073741789 = n % 1073741789 ∨ (n.tmod 1073741789 = n % 1073741789 - 1073741789 ∧ n % 1073741789 ≠ 0) := by
  have h := @Int.tmod_eq_emod n 1073741789
  split at h
  · left; simpa using h
  · rename_i hn
    right
    refine ⟨by simpa using h, fun e => hn (.inr (Int.dvd_of_emod_eq_zero e))⟩
theorem mod_spec (n : Int) (st : Store) : Rets P F.field_Mod [.int n] st (.int (n % Qi)) := by
  refine H.field_Mod.pure hmix rfl rfl ?_
  have b := mod_in n
  have hQ : n % Qi = n % 1073741789 := rfl
  have w1 : IntKind.i64.wrap (n % Qi) = n % Qi := wrap_in (by omega) (by unfold Qi at *; omega)
  rcases tmodQ n with h | ⟨h, h0⟩
  · have e : n.tmod 1073741789 = n % Qi := h
    have hn : ¬ n % Qi < 0 := by omega
    clear b hQ h
    generalize n % Qi = m at *
    repeat' (simp -dsimp -implicitDefEqProofs [*])
  · have w0 : IntKind.i64.wrap (n.tmod 1073741789) = n.tmod 1073741789 := wrap_in (by unfold Qi at *; omega) (by unfold Qi at *; omega)
    have hn : n.tmod 1073741789 < 0 := by unfold Qi at *; omega
    have e : n.tmod 1073741789 + 1073741789 = n % Qi := by unfold Qi at *; omega
    clear b hQ h h0
    generalize n % Qi = m at *
    generalize hk : n.tmod 1073741789 = k at *
    repeat' (simp -dsimp -implicitDefEqProofs [*])
theorem tmodE (n : Int) (h : 0 ≤ n) : n.tmod 1073741789 = n % Qi := Int.tmod_eq_emod_of_nonneg h
theorem mulQ {x y : Int} (hx : 0 ≤ x ∧ x ≤ Qi) (hy : 0 ≤ y ∧ y ≤ Qi) : 0 ≤ x * y ∧ x * y ≤ 1152921430460400521 := by
  refine ⟨Int.mul_nonneg hx.1 hy.1, ?_⟩
  have := Int.mul_le_mul hx.2 hy.2 hy.1 (by decide : (0 : Int) ≤ Qi)
  unfold Qi at *
  omega
theorem mul_spec (a b : Int) (st : Store) : Rets P F.field_Mul [.int a, .int b] st (.int (a % Qi * (b % Qi) % Qi)) := by
  refine H.field_Mul.pure hmix rfl rfl ?_
  have ha := mod_in a
  have hb := mod_in b
  have hm : ∀ n st, Rets P F.field_Mod [.int n] st (.int (n % Qi)) := fun n st => mod_spec n st
  have hm1 := fun st => hm a st
  have hm2 := fun st => hm b st
  clear hm
  generalize a % Qi = x at *
  generalize b % Qi = y at *
  have h := mulQ ⟨ha.1, by omega⟩ ⟨hb.1, by omega⟩
  have w1 : IntKind.i64.wrap (x * y) = x * y := wrap_in (by omega) (by omega)
  have e := tmodE (x * y) h.1
  have m := mod_in (x * y)
  have w2 : IntKind.i64.wrap (x * y % Qi) = x * y % Qi := wrap_in (by omega) (by unfold Qi at *; omega)
  clear ha hb h m
  repeat' (first 
   | (with_reducible refine Rets.xcall (hm1 _) ?_)
   | (with_reducible refine Rets.xcall (hm2 _) ?_)
   | (simp -dsimp -implicitDefEqProofs [*]))
theorem sum_two (a b : Int) (t : Bool) (st : Store) : Rets P F.field_sum [.list t [.int a, .int b] 2] st (.int ((a % Qi + b % Qi) % Qi)) := by
  refine H.field_sum.pure hmix rfl rfl ?_
  have hm1 := fun st => mod_spec a st
  have hm2 := fun st => mod_spec b st
  have ha := mod_in a
  have hb := mod_in b
  have e1 : (0 + a % Qi).tmod 1073741789 = a % Qi := by rw [Int.zero_add, tmodE _ ha.1]; exact Int.emod_eq_of_lt ha.1 ha.2
  generalize a % Qi = x at *
  generalize b % Qi = y at *
  have w1 : IntKind.i64.wrap x = x := wrap_in (by omega) (by unfold Qi at *; omega)
  have e0 : x.tmod 1073741789 = x := by simpa using e1
  have w2 : IntKind.i64.wrap (x + y) = x + y := wrap_in (by omega) (by unfold Qi at *; omega)
  have e2 : (x + y).tmod 1073741789 = (x + y) % Qi := tmodE _ (by omega)
  have m := mod_in (x + y)
  have w3 : IntKind.i64.wrap ((x + y) % Qi) = (x + y) % Qi := wrap_in (by omega) (by unfold Qi at *; omega)
  clear m ha hb e1
  have u1 : IntKind.i64.wrap 1 = 1 := by decide
  have u2 : IntKind.i64.wrap 2 = 2 := by decide
  repeat' (simp -dsimp -implicitDefEqProofs [*])
  refine xloop_for (fun i : Nat => [(3, .int (if i = 0 then 0 else if i = 1 then x else (x + y) % Qi)), (6, .list t [.int a, .int b] 2), (7, .int 2), (8, .int (i : Nat))]) (fun _ => st) (fun i => i ≤ 2) (fun i => 2 - i) 0 (by omega) (by simp) (.refl _) ?_
  intro i hi
  have : i = 0 ∨ i = 1 ∨ i = 2 := by omega
  rcases this with rfl | rfl | rfl
  · repeat' (first 
     | (with_reducible refine Rets.xcall (hm1 _) ?_)
     | (simp -dsimp -implicitDefEqProofs [*]))
    exact Next.intro 1 (by omega) (by omega) (by simp) (by repeat' (first | exact StLe.refl _ | (refine StLe_cons (by simp [*]; done) ?_) | (refine StLe_fresh (by simp [*]; done) ?_)))
  · repeat' (first 
     | (with_reducible refine Rets.xcall (hm2 _) ?_)
     | (simp -dsimp -implicitDefEqProofs [*]))
    exact Next.intro 2 (by omega) (by omega) (by simp) (by repeat' (first | exact StLe.refl _ | (refine StLe_cons (by simp [*]; done) ?_) | (refine StLe_fresh (by simp [*]; done) ?_)))
  · repeat' (simp -dsimp -implicitDefEqProofs [*])
theorem value_spec (t : Bool) (poly : List Int) (hp : poly.length ≤ 1000) (x : Int) (st : Store) : Rets P F.field_Value [intLst t poly, .int x] st (.int (ev poly x % Qi)) := by
  refine H.field_Value.pure hmix rfl rfl ?_
  repeat' (simp -dsimp -implicitDefEqProofs [*])
  refine xloop_for (fun i : Nat => [(1, .int x), (4, .int (ev (poly.take i) x % Qi)), (5, .int (if i = 0 then 1 else x ^ i % Qi)), (8, intLst t poly), (9, .int poly.length), (10, .int (i : Nat))]) (fun _ => st) (fun i => i ≤ poly.length) (fun i => poly.length - i) 0 (by omega) (by simp [ev]) (.refl _) ?_
  intro i hi
  by_cases hil : i < poly.length
  · have hg := intRow_get poly i hil
    have hwi := wrap_succ (n := i) (by omega)
    have hpw : (if i = 0 then (1 : Int) else x ^ i % Qi) = x ^ i % Qi := by
      split
      · rename_i h; subst h; rw [Int.pow_zero]; decide
      · rfl
    have m1 := fun st => mul_spec poly[i] (x ^ i % Qi) st
    have s1 := fun st => sum_two (ev (poly.take i) x % Qi) (poly[i] % Qi * (x ^ i % Qi % Qi) % Qi) true st
    have m2 := fun st => mul_spec (x ^ i % Qi) x st
    have e1 : (ev (poly.take i) x % Qi % Qi + poly[i] % Qi * (x ^ i % Qi % Qi) % Qi % Qi) % Qi = ev (poly.take (i + 1)) x % Qi := by
      rw [List.take_succ_eq_append_getElem hil, ev_snoc, List.length_take, Nat.min_eq_left (by omega)]
      rw [Int.mul_comm (x ^ i)]
      simp only [Int.emod_emod_of_dvd _ (Int.dvd_refl Qi)]
      rw [← Int.mul_emod, ← Int.add_emod]
    have e2 : x ^ i % Qi % Qi * (x % Qi) % Qi = (if i + 1 = 0 then (1 : Int) else x ^ (i + 1) % Qi) := by
      rw [if_neg (by omega), Int.pow_succ]
      simp only [Int.emod_emod_of_dvd _ (Int.dvd_refl Qi)]
      rw [← Int.mul_emod]
    rw [e1] at s1
    rw [e2] at m2
    rw [hpw]
    generalize poly[i] % Qi * (x ^ i % Qi % Qi) % Qi = A at *
    generalize ev (poly.take i) x % Qi = B at *
    generalize hC : ev (poly.take (i + 1)) x % Qi = C at *
    generalize x ^ i % Qi = D at *
    generalize hE : (if i + 1 = 0 then (1 : Int) else x ^ (i + 1) % Qi) = E at *
    clear e1 e2
    repeat' (first 
     | (with_reducible refine Rets.xcall (m1 _) ?_)
     | (with_reducible refine Rets.xcall (s1 _) ?_)
     | (with_reducible refine Rets.xcall (m2 _) ?_)
     | (with_reducible refine Lit.imm ?_)
     | (simp -dsimp -implicitDefEqProofs [*]))
    exact Next.intro (i + 1) (by omega) (by omega) (by simp only [hC, hE]; simp) (by repeat' (first | exact StLe.refl _ | (refine StLe_cons (by simp [*]; done) ?_) | (refine StLe_fresh (by simp [*]; done) ?_)))
  · have e : i = poly.length := by omega
    subst e
    rw [List.take_length]
    repeat' (simp -dsimp -implicitDefEqProofs [*])
end Go.Proofs.YtmgpkcpalpejcaaDoor
