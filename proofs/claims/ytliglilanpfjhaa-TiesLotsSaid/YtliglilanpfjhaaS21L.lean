/- Package nat: whole numbers. -/
import Derived.Test.YtliglilanpfjhaaS21J
import Derived.Test.YtliglilanpfjhaaLKd
import Derived.Test.YtliglilanpfjhaaLDp
namespace Go.Proofs.Ytliglilanpfjhaa
open Go.Pv
set_option maxRecDepth 100000
set_option maxHeartbeats 4000000
theorem zOk (z : Int) (h : dl z.natAbs ≤ 2048) : bigOk (decide (z < 0)) (digs z.natAbs) = true := bigOk_digs h fun h => by simp only [decide_eq_false_iff_not]; omega
theorem natMul_spec (t u : Bool) (a b : Int) (ha : dl a.natAbs ≤ 2048) (hb : dl b.natAbs ≤ 2048) (hab : dl (a * b).natAbs ≤ 2048) (st : Store) : Rets P F.nat_Mul [.agg (zC t a), .agg (zC u b)] st (.tuple [.agg (zC false (a * b)), .int 0]) := by
  refine H.nat_Mul.view hmix rfl rfl ?_
  have hc := check_ok _ t _ u _ _ (zOk a ha) (zOk b hb) (by unfold dl at ha; omega) (by unfold dl at hb; omega)
  have hm := mul_spec t u (digs a.natAbs) (digs b.natAbs) a.natAbs b.natAbs (dv_digs _) (dv_digs _) (digs_ok _) (digs_ok _) (by unfold dl at ha; omega) (by unfold dl at hb; omega)
  rw [Int.natAbs_mul] at hab
  have hg := fun s => big_spec s false (a.natAbs * b.natAbs) hab
  have e := zC_mul a b
  rw [e]
  unfold zC
  clear ha hb hab e
  obtain ⟨A, hA⟩ : ∃ A, A = digs a.natAbs := ⟨_, rfl⟩
  obtain ⟨B, hB⟩ : ∃ B, B = digs b.natAbs := ⟨_, rfl⟩
  obtain ⟨n, hn⟩ : ∃ n, n = a.natAbs * b.natAbs := ⟨_, rfl⟩
  obtain ⟨s1, h1⟩ : ∃ s, s = decide (a < 0) := ⟨_, rfl⟩
  obtain ⟨s2, h2⟩ : ∃ s, s = decide (b < 0) := ⟨_, rfl⟩
  rw [← hA, ← hB, ← h1, ← h2] at hc
  rw [← hA, ← hB, ← hn] at hm
  rw [← hn] at hg
  rw [← hA, ← hB, ← hn, ← h1, ← h2]
  clear hA hB hn h1 h2
  repeat' (first 
   | (with_reducible refine Fresh.intro fun b hb => ?_) <;> (try simp -dsimp -implicitDefEqProofs [*] at hb)
   | (with_reducible refine Rets.xcall (hc _) ?_)
   | (with_reducible refine Rets.xcall (hm _) ?_)
   | (with_reducible refine Rets.xcall (hg _ _) ?_)
   | (with_reducible refine Defs.xdef (ncaught_ret _ _) ?_)
   | (with_reducible refine Lit.imm ?_)
   | (with_reducible refine DrawLate.intro [] ?_)
   | (simp -dsimp -implicitDefEqProofs [H.nat_caught.enters, *]))
  exact RetView.drop (st' := st) (by repeat' (first | exact StLe.refl _ | (refine StLe_cons (by simp [*]; done) ?_) | (refine StLe_fresh (by simp [*]; done) ?_))) ⟨rfl, rfl⟩
theorem cmpZ_nat (a b : Int) : cmpZ a b = if a < 0 then (if b < 0 then cmpN b.natAbs a.natAbs else -1) else if b < 0 then 1 else cmpN a.natAbs b.natAbs := by
  unfold cmpZ cmpN
  repeat' split
  all_goals omega
theorem natCmp_spec (t u : Bool) (a b : Int) (ha : dl a.natAbs ≤ 2048) (hb : dl b.natAbs ≤ 2048) (st : Store) : Rets P F.nat_Cmp [.agg (zC t a), .agg (zC u b)] st (.tuple [.int (cmpZ a b), .int 0]) := by
  refine H.nat_Cmp.view hmix rfl rfl ?_
  have hc := check_ok _ t _ u _ _ (zOk a ha) (zOk b hb) (by unfold dl at ha; omega) (by unfold dl at hb; omega)
  have k1 := compare_spec u t b.natAbs a.natAbs (by omega) (by omega)
  have k2 := compare_spec t u a.natAbs b.natAbs (by omega) (by omega)
  rw [cmpZ_nat]
  unfold zC
  clear ha hb
  obtain ⟨A, hA⟩ : ∃ A, A = digs a.natAbs := ⟨_, rfl⟩
  obtain ⟨B, hB⟩ : ∃ B, B = digs b.natAbs := ⟨_, rfl⟩
  obtain ⟨c1, hc1⟩ : ∃ c, c = cmpN a.natAbs b.natAbs := ⟨_, rfl⟩
  obtain ⟨c2, hc2⟩ : ∃ c, c = cmpN b.natAbs a.natAbs := ⟨_, rfl⟩
  rw [← hA, ← hB] at hc k1 k2
  rw [← hc2] at k1
  rw [← hc1] at k2
  rw [← hA, ← hB, ← hc1, ← hc2]
  clear hA hB hc1 hc2
  by_cases h1 : a < 0
  · by_cases h2 : b < 0
    · simp only [h1, h2, decide_true] at hc ⊢
      repeat' (first 
       | (with_reducible refine Fresh.intro fun b hb => ?_) <;> (try simp -dsimp -implicitDefEqProofs [*] at hb)
       | (with_reducible refine Rets.xcall (hc _) ?_)
       | (with_reducible refine Rets.xcall (k1 _) ?_)
       | (with_reducible refine Defs.xdef (ncaught_ret _ _) ?_)
       | (with_reducible refine Lit.imm ?_)
       | (simp -dsimp -implicitDefEqProofs [H.nat_caught.enters, *]))
      exact RetView.drop (st' := st) (by repeat' (first | exact StLe.refl _ | (refine StLe_cons (by simp [*]; done) ?_) | (refine StLe_fresh (by simp [*]; done) ?_))) ⟨rfl, rfl⟩
    · simp only [h1, h2, decide_true, decide_false] at hc ⊢
      repeat' (first 
       | (with_reducible refine Fresh.intro fun b hb => ?_) <;> (try simp -dsimp -implicitDefEqProofs [*] at hb)
       | (with_reducible refine Rets.xcall (hc _) ?_)
       | (with_reducible refine Defs.xdef (ncaught_ret _ _) ?_)
       | (with_reducible refine Lit.imm ?_)
       | (simp -dsimp -implicitDefEqProofs [H.nat_caught.enters, *]))
      exact RetView.drop (st' := st) (by repeat' (first | exact StLe.refl _ | (refine StLe_cons (by simp [*]; done) ?_) | (refine StLe_fresh (by simp [*]; done) ?_))) ⟨rfl, rfl⟩
  · by_cases h2 : b < 0
    · simp only [h1, h2, decide_true, decide_false] at hc ⊢
      repeat' (first 
       | (with_reducible refine Fresh.intro fun b hb => ?_) <;> (try simp -dsimp -implicitDefEqProofs [*] at hb)
       | (with_reducible refine Rets.xcall (hc _) ?_)
       | (with_reducible refine Defs.xdef (ncaught_ret _ _) ?_)
       | (with_reducible refine Lit.imm ?_)
       | (simp -dsimp -implicitDefEqProofs [H.nat_caught.enters, *]))
      exact RetView.drop (st' := st) (by repeat' (first | exact StLe.refl _ | (refine StLe_cons (by simp [*]; done) ?_) | (refine StLe_fresh (by simp [*]; done) ?_))) ⟨rfl, rfl⟩
    · simp only [h1, h2, decide_false] at hc ⊢
      repeat' (first 
       | (with_reducible refine Fresh.intro fun b hb => ?_) <;> (try simp -dsimp -implicitDefEqProofs [*] at hb)
       | (with_reducible refine Rets.xcall (hc _) ?_)
       | (with_reducible refine Rets.xcall (k2 _) ?_)
       | (with_reducible refine Defs.xdef (ncaught_ret _ _) ?_)
       | (with_reducible refine Lit.imm ?_)
       | (simp -dsimp -implicitDefEqProofs [H.nat_caught.enters, *]))
      exact RetView.drop (st' := st) (by repeat' (first | exact StLe.refl _ | (refine StLe_cons (by simp [*]; done) ?_) | (refine StLe_fresh (by simp [*]; done) ?_))) ⟨rfl, rfl⟩
theorem natGcd_spec (t u : Bool) (v w : Int) (ha : dl v.natAbs ≤ 2048) (hb : dl w.natAbs ≤ 2048) (st : Store) : Rets P F.nat_Gcd [.agg (zC t v), .agg (zC u w)] st (.tuple [.agg (zC false (Nat.gcd v.natAbs w.natAbs : Nat)), .int 0]) := by
  refine H.nat_Gcd.view hmix rfl rfl ?_
  have hc := check_ok _ t _ u _ _ (zOk v ha) (zOk w hb) (by unfold dl at ha; omega) (by unfold dl at hb; omega)
  obtain ⟨x, hx⟩ : ∃ x, x = v.natAbs := ⟨_, rfl⟩
  obtain ⟨y, hy⟩ : ∃ y, y = w.natAbs := ⟨_, rfl⟩
  have e : ((Nat.gcd x y : Nat) : Int).natAbs = Nat.gcd x y := rfl
  have e2 : zC false (Nat.gcd x y : Nat) = [.bool false, intLst false (digs (Nat.gcd x y))] := by
    have : ¬ ((Nat.gcd x y : Nat) : Int) < 0 := by omega
    unfold zC
    rw [decide_eq_false this, e]
  rw [← hx] at hc ha
  rw [← hy] at hc hb
  rw [← hx, ← hy, e2]
  unfold zC
  rw [← hx, ← hy]
  clear hx hy e e2
  repeat' (first 
   | (with_reducible refine Fresh.intro fun b hb => ?_) <;> (try simp -dsimp -implicitDefEqProofs [*] at hb)
   | (with_reducible refine Rets.xcall (hc _) ?_)
   | (with_reducible refine Lit.imm ?_)
   | (simp -dsimp -implicitDefEqProofs [H.nat_caught.enters, *]))
  revert b
  revert b
  revert b
  revert b
  intro p2 h2 p3 h3 p4 h4 p5 h5
  refine xloop_for (fun y : Bool × Bool × Nat × Nat => [(4, .ptr p4 0), (5, .ptr p5 0), (6, intLst y.1 (digs y.2.2.1)), (7, intLst y.2.1 (digs y.2.2.2))]) (fun _ => (p5, .arr T.apiErrno [.int 0]) :: (p4, .arr T.apiBig [.bool false, .nil]) :: (p3, .arr T.apiBig [.bool (decide (w < 0)), intLst u (digs y)]) :: (p2, .arr T.apiBig [.bool (decide (v < 0)), intLst t (digs x)]) :: st)
    (fun z => dl z.2.2.1 ≤ 2048 ∧ dl z.2.2.2 ≤ 2048 ∧ Hid (Nat.gcd z.2.2.1 z.2.2.2 = Nat.gcd x y)) (fun z => z.2.2.2) (t, u, x, y) ⟨ha, hb, ⟨rfl⟩⟩ (by simp) (.refl _) ?_
  rintro ⟨t1, u1, m, n⟩ ⟨hm, hn, hg⟩
  simp only at hm hn hg
  clear ha hb hc
  by_cases hn0 : n = 0
  · subst hn0
    have hg2 : m = Nat.gcd x y := by have := hg.out; rwa [Nat.gcd_zero_right] at this
    have hbig := big_spec false t1 m hm
    rw [← hg2, digs_zero]
    clear hg hg2 hn
    repeat' (first 
     | (with_reducible refine Rets.xcall (hbig _) ?_)
     | (with_reducible refine Defs.xdef (ncaught_ret _ _) ?_)
     | (simp -dsimp -implicitDefEqProofs [*]))
    exact RetView.drop (st' := st) (by repeat' (first | exact StLe.refl _ | (refine StLe_cons (by simp [*]; done) ?_) | (refine StLe_fresh (by simp [*]; done) ?_))) ⟨rfl, rfl⟩
  · have hd := div_spec t1 u1 m n hn0 (by omega) (by omega)
    have l0 : 0 < (digs n).length := dl_pos hn0
    have hlt := Nat.mod_lt m (show 0 < n by omega)
    have hmn : dl (m % n) ≤ 2048 := Nat.le_trans (dl_mono (Nat.le_of_lt hlt)) hn
    have hg2 : Hid (Nat.gcd n (m % n) = Nat.gcd x y) := ⟨by rw [gcd_step]; exact hg.out⟩
    clear hg
    repeat' (first 
     | (with_reducible refine Rets.xcall (hd _) ?_)
     | (simp -dsimp -implicitDefEqProofs [*]))
    exact Next.intro (u1, false, n, m % n) ⟨hn, hmn, hg2⟩ hlt (by simp) (.refl _)
end Go.Proofs.Ytliglilanpfjhaa
/- Package nat: exact quotients, numbers of small ones. -/
namespace Go.Proofs.Ytliglilanpfjhaa
open Go.Pv
set_option maxRecDepth 100000
set_option maxHeartbeats 4000000
theorem zC_quo (w : Int) (d : Nat) (hd : d ≠ 0) : zC false w = [.bool ((decide (w * d < 0)) && decide (w.natAbs ≠ 0)), intLst false (digs w.natAbs)] ∧ (w * d).natAbs / d = w.natAbs ∧ (w * d).natAbs % d = 0 := by
  have e : (w * d).natAbs = w.natAbs * d := by rw [Int.natAbs_mul]; rfl
  refine ⟨?_, by rw [e, Nat.mul_div_cancel _ (by omega)], by rw [e, Nat.mul_mod_left]⟩
  unfold zC
  congr 2
  by_cases h : w < 0
  · have : w * d < 0 := Int.mul_neg_of_neg_of_pos h (by omega)
    have h2 : w.natAbs ≠ 0 := by omega
    rw [decide_eq_true h, decide_eq_true this, decide_eq_true h2]; rfl
  · have : ¬ w * d < 0 := by
      have := Int.mul_nonneg (show 0 ≤ w by omega) (show 0 ≤ (d : Int) by omega)
      omega
    rw [decide_eq_false h, decide_eq_false this]; rfl
end Go.Proofs.Ytliglilanpfjhaa
