/- The reference's products and comparisons of whole numbers. -/
import Derived.Test.YtliglilanpfjhaaS21Y
namespace Go.Proofs.Ytliglilanpfjhaa
open Go.Pv
set_option maxRecDepth 100000
set_option maxHeartbeats 16000000
theorem mul_neg (a b : Int) : ((decide (a < 0) != decide (b < 0)) && decide (a.natAbs * b.natAbs ≠ 0)) = decide (a * b < 0) := by
  rcases Int.lt_trichotomy a 0 with h | h | h <;> rcases Int.lt_trichotomy b 0 with k | k | k
  all_goals first
    | (subst h; simp; done)
    | (subst k; simp; done)
    | skip
  · have e := Int.mul_pos_of_neg_of_neg h k
    have h0 : ¬ a * b < 0 := by omega
    simp [h, k, h0]
  · have e := Int.mul_neg_of_neg_of_pos h k
    have k0 : ¬ b < 0 := by omega
    have hz : ¬ a.natAbs * b.natAbs = 0 := Nat.mul_ne_zero (by omega) (by omega)
    simp [h, k0, e, hz]
  · have e := Int.mul_neg_of_pos_of_neg h k
    have k0 : ¬ a < 0 := by omega
    have hz : ¬ a.natAbs * b.natAbs = 0 := Nat.mul_ne_zero (by omega) (by omega)
    simp [k, k0, e, hz]
  · have e := Int.mul_pos h k
    have h0 : ¬ a * b < 0 := by omega
    have h1 : ¬ a < 0 := by omega
    have h2 : ¬ b < 0 := by omega
    simp [h1, h2, h0]
theorem rCmp09_spec (t u : Bool) (a b : Int) (ha : dl a.natAbs ≤ 2048) (hb : dl b.natAbs ≤ 2048) (st : Store) : Rets P F.podiumref09_Cmp [.agg (zC t a), .agg (zC u b)] st (.tuple [.int (cmpZ a b), .int 0]) := by
  have hc := rTwo_spec _ t _ u _ _ (zOk a ha) (zOk b hb) (by unfold dl at ha; omega) (by unfold dl at hb; omega)
  have h1 := rcmp_spec t u a.natAbs b.natAbs (by omega) (by omega)
  have h2 := rcmp_spec u t b.natAbs a.natAbs (by omega) (by omega)
  have e1 : a < 0 → b < 0 → cmpN b.natAbs a.natAbs = cmpZ a b := fun _ _ => by unfold cmpN cmpZ; repeat' split <;> omega
  have e2 : ¬ a < 0 → ¬ b < 0 → cmpN a.natAbs b.natAbs = cmpZ a b := fun _ _ => by unfold cmpN cmpZ; repeat' split <;> omega
  have e3 : a < 0 → ¬ b < 0 → cmpZ a b = -1 := fun _ _ => by unfold cmpZ; rw [if_pos (by omega)]
  have e4 : ¬ a < 0 → b < 0 → cmpZ a b = 1 := fun _ _ => by unfold cmpZ; rw [if_neg (by omega), if_pos (by omega)]
  unfold zC
  obtain ⟨A, hA⟩ : ∃ x, x = digs a.natAbs := ⟨_, rfl⟩
  obtain ⟨B, hB⟩ : ∃ x, x = digs b.natAbs := ⟨_, rfl⟩
  obtain ⟨c, hcc⟩ : ∃ x, x = cmpZ a b := ⟨_, rfl⟩
  rw [← hA, ← hB] at hc h1 h2 ⊢
  rw [← hcc] at e1 e2 e3 e4 ⊢
  clear hA hB hcc ha hb
  refine H.podiumref09_Cmp.view hmix rfl rfl ?_
  by_cases ka : a < 0 <;> by_cases kb : b < 0
  · rw [e1 ka kb] at h2
    rw [decide_eq_true ka, decide_eq_true kb] at hc ⊢
    clear e1 e2 e3 e4 ka kb h1
    repeat' (first 
     | (with_reducible refine Fresh.intro fun b hb => ?_) <;> (try simp -dsimp -implicitDefEqProofs [*] at hb)
     | (with_reducible refine Rets.xcall (hc _) ?_)
     | (with_reducible refine Rets.xcall (h2 _) ?_)
     | (simp -dsimp -implicitDefEqProofs [*]))
    exact RetView.drop (st' := st) (by repeat' (first | exact StLe.refl _ | (refine StLe_cons (by simp [*]; done) ?_) | (refine StLe_fresh (by simp [*]; done) ?_))) ⟨rfl, rfl⟩
  · have e := e3 ka kb
    subst e
    rw [decide_eq_true ka, decide_eq_false kb] at hc ⊢
    clear e1 e2 e3 e4 ka kb h1 h2
    repeat' (first 
     | (with_reducible refine Fresh.intro fun b hb => ?_) <;> (try simp -dsimp -implicitDefEqProofs [*] at hb)
     | (with_reducible refine Rets.xcall (hc _) ?_)
     | (simp -dsimp -implicitDefEqProofs [*]))
    exact RetView.drop (st' := st) (by repeat' (first | exact StLe.refl _ | (refine StLe_cons (by simp [*]; done) ?_) | (refine StLe_fresh (by simp [*]; done) ?_))) ⟨rfl, rfl⟩
  · have e := e4 ka kb
    subst e
    rw [decide_eq_false ka, decide_eq_true kb] at hc ⊢
    clear e1 e2 e3 e4 ka kb h1 h2
    repeat' (first 
     | (with_reducible refine Fresh.intro fun b hb => ?_) <;> (try simp -dsimp -implicitDefEqProofs [*] at hb)
     | (with_reducible refine Rets.xcall (hc _) ?_)
     | (simp -dsimp -implicitDefEqProofs [*]))
    exact RetView.drop (st' := st) (by repeat' (first | exact StLe.refl _ | (refine StLe_cons (by simp [*]; done) ?_) | (refine StLe_fresh (by simp [*]; done) ?_))) ⟨rfl, rfl⟩
  · rw [e2 ka kb] at h1
    rw [decide_eq_false ka, decide_eq_false kb] at hc ⊢
    clear e1 e2 e3 e4 ka kb h2
    repeat' (first 
     | (with_reducible refine Fresh.intro fun b hb => ?_) <;> (try simp -dsimp -implicitDefEqProofs [*] at hb)
     | (with_reducible refine Rets.xcall (hc _) ?_)
     | (with_reducible refine Rets.xcall (h1 _) ?_)
     | (simp -dsimp -implicitDefEqProofs [*]))
    exact RetView.drop (st' := st) (by repeat' (first | exact StLe.refl _ | (refine StLe_cons (by simp [*]; done) ?_) | (refine StLe_fresh (by simp [*]; done) ?_))) ⟨rfl, rfl⟩
/-- The reference's check of ratios. -/
theorem rCheck10_specW (s1 t1 s2 t2 : Bool) (L1 L2 : List Int) (st : Store) : Rets P F.podiumref10_Check [.agg [.bool s1, intLst t1 L1, .bool s2, intLst t2 L2]] st (.int (errB (ratOk s1 L1 s2 L2) 100)) := by
  have c1 := rCheck_specW s1 t1 L1
  have c2 := rCheck_specW s2 t2 L2
  have c3 := zero_spec s2 t2 L2
  by_cases h1 : bigOk s1 L1 = true
  · by_cases h2 : bigOk s2 L2 = true
    · rw [h1] at c1
      rw [h2] at c2
      have c1 : ∀ st, Rets P F.podiumref09_Check [.agg [.bool s1, intLst t1 L1]] st (.int 0) := c1
      have c2 : ∀ st, Rets P F.podiumref09_Check [.agg [.bool s2, intLst t2 L2]] st (.int 0) := c2
      by_cases h3 : L2 = []
      · subst h3
        have e : ratOk s1 L1 s2 [] = false := by simp [ratOk]
        rw [e]
        clear h1 h2 e
        refine H.podiumref10_Check.view hmix rfl rfl ?_
        repeat' (first 
         | (with_reducible refine Fresh.intro fun b hb => ?_) <;> (try simp -dsimp -implicitDefEqProofs [*] at hb)
         | (with_reducible refine Rets.xcall (c1 _) ?_)
         | (with_reducible refine Rets.xcall (c2 _) ?_)
         | (with_reducible refine Rets.xcall (c3 _) ?_)
         | (simp -dsimp -implicitDefEqProofs [errB, *]))
        all_goals exact RetView.drop (st' := st) (by repeat' (first | exact StLe.refl _ | (refine StLe_cons (by simp [*]; done) ?_) | (refine StLe_fresh (by simp [*]; done) ?_))) ⟨rfl, rfl⟩
      · have l3 : ¬ (L2.length : Int) = 0 := by
          intro h
          exact h3 (List.length_eq_zero_iff.1 (by omega))
        rw [decide_eq_false l3] at c3
        cases s2 with
        | true =>
          have e : ratOk s1 L1 true L2 = false := by simp [ratOk]
          rw [e]
          clear h1 h2 e h3 l3
          refine H.podiumref10_Check.view hmix rfl rfl ?_
          repeat' (first 
           | (with_reducible refine Fresh.intro fun b hb => ?_) <;> (try simp -dsimp -implicitDefEqProofs [*] at hb)
           | (with_reducible refine Rets.xcall (c1 _) ?_)
           | (with_reducible refine Rets.xcall (c2 _) ?_)
           | (with_reducible refine Rets.xcall (c3 _) ?_)
           | (simp -dsimp -implicitDefEqProofs [errB, *]))
          all_goals exact RetView.drop (st' := st) (by repeat' (first | exact StLe.refl _ | (refine StLe_cons (by simp [*]; done) ?_) | (refine StLe_fresh (by simp [*]; done) ?_))) ⟨rfl, rfl⟩
        | false =>
          obtain ⟨x, rfl, hx, hx0⟩ := bigOk_iff.1 h1
          obtain ⟨d, rfl, hd, -⟩ := bigOk_iff.1 h2
          have hd0 : d ≠ 0 := fun e => h3 (by rw [e, digs_zero])
          obtain ⟨v, hv1, hv2⟩ : ∃ v : Int, decide (v < 0) = s1 ∧ v.natAbs = x := by
            cases s1 with
            | false => exact ⟨x, decide_eq_false (by omega), by omega⟩
            | true =>
              have : x ≠ 0 := fun e => by have := hx0 e; cases this
              exact ⟨-x, decide_eq_true (by omega), by omega⟩
          have ez : zC t1 v = [.bool s1, intLst t1 (digs x)] := by unfold zC; rw [hv1, hv2]
          have cg := rGcd_spec t1 t2 v d (by rw [hv2]; exact hx) hd
          have ed : (d : Int).natAbs = d := rfl
          rw [ez, zC_nat t2, hv2, ed] at cg
          obtain ⟨g, hg⟩ : ∃ g, g = Nat.gcd x d := ⟨_, rfl⟩
          have hgd : dl g ≤ 2048 := Nat.le_trans (dl_mono (by rw [hg]; exact Nat.gcd_le_right _ (Nat.pos_iff_ne_zero.2 hd0))) hd
          rw [← hg] at cg
          have cm := rMake_spec 1 (by decide) (by decide)
          have cc := rCmp09_spec false false g 1 hgd (by have : dl (1 : Int).natAbs ≤ 1 := dl_one (by decide); omega)
          have e : ratOk s1 (digs x) false (digs d) = decide (cmpZ g 1 = 0) := by
            have l2 : digs d ≠ [] := h3
            unfold ratOk
            rw [h1, h2, dv_digs_nat, dv_digs_nat]
            have e2 : (cmpZ g 1 = 0) ↔ g = 1 := by unfold cmpZ; repeat' split <;> omega
            have e3 : decide (Nat.gcd x d = 1) = decide (cmpZ g 1 = 0) := decide_eq_decide.2 (by rw [← hg, e2])
            rw [e3]
            simp [l2]
          rw [e]
          obtain ⟨c, hc⟩ : ∃ c, c = cmpZ g 1 := ⟨_, rfl⟩
          rw [← hc] at cc ⊢
          obtain ⟨X, hX⟩ : ∃ X, X = digs x := ⟨_, rfl⟩
          obtain ⟨D, hD⟩ : ∃ X, X = digs d := ⟨_, rfl⟩
          rw [← hX] at c1 cg ⊢
          rw [← hD] at c2 c3 cg ⊢
          obtain ⟨G, hG⟩ : ∃ X, X = zC false (g : Int) := ⟨_, rfl⟩
          obtain ⟨O, hO⟩ : ∃ X, X = zC false 1 := ⟨_, rfl⟩
          have lG : G.length = 2 := by rw [hG]; rfl
          rw [← hG] at cg cc
          rw [← hO] at cm cc
          have fG := cells_sub lG
          have aG : setCells [.bool false, .nil] 0 G = G := setCells_all G _ lG
          clear hG hO hX hD hc e hgd hg ez hv1 hv2 hd0 hx hx0 hd h1 h2 h3 l3 ed
          refine H.podiumref10_Check.view hmix rfl rfl ?_
          by_cases hc0 : c = 0
          · subst hc0
            repeat' (first 
             | (with_reducible refine Fresh.intro fun b hb => ?_) <;> (try simp -dsimp -implicitDefEqProofs [*] at hb)
             | (with_reducible refine Rets.xcall (c1 _) ?_)
             | (with_reducible refine Rets.xcall (c2 _) ?_)
             | (with_reducible refine Rets.xcall (c3 _) ?_)
             | (with_reducible refine Rets.xcall (cg _) ?_)
             | (with_reducible refine Rets.xcall (cm _) ?_)
             | (with_reducible refine Rets.xcall (cc _) ?_)
             | (with_reducible refine DrawLate.intro [] ?_)
             | (simp -dsimp -implicitDefEqProofs [errB, *]))
            exact RetView.drop (st' := st) (by repeat' (first | exact StLe.refl _ | (refine StLe_cons (by simp [*]; done) ?_) | (refine StLe_fresh (by simp [*]; done) ?_))) ⟨rfl, rfl⟩
          · rw [decide_eq_false hc0]
            repeat' (first 
             | (with_reducible refine Fresh.intro fun b hb => ?_) <;> (try simp -dsimp -implicitDefEqProofs [*] at hb)
             | (with_reducible refine Rets.xcall (c1 _) ?_)
             | (with_reducible refine Rets.xcall (c2 _) ?_)
             | (with_reducible refine Rets.xcall (c3 _) ?_)
             | (with_reducible refine Rets.xcall (cg _) ?_)
             | (with_reducible refine Rets.xcall (cm _) ?_)
             | (with_reducible refine Rets.xcall (cc _) ?_)
             | (with_reducible refine DrawLate.intro [] ?_)
             | (simp -dsimp -implicitDefEqProofs [errB, *]))
            exact RetView.drop (st' := st) (by repeat' (first | exact StLe.refl _ | (refine StLe_cons (by simp [*]; done) ?_) | (refine StLe_fresh (by simp [*]; done) ?_))) ⟨rfl, rfl⟩
    · have e : ratOk s1 L1 s2 L2 = false := by simp [ratOk, h2]
      rw [e]
      rw [h1] at c1
      rw [Bool.not_eq_true] at h2
      rw [h2] at c2
      have c1 : ∀ st, Rets P F.podiumref09_Check [.agg [.bool s1, intLst t1 L1]] st (.int 0) := c1
      have c2 : ∀ st, Rets P F.podiumref09_Check [.agg [.bool s2, intLst t2 L2]] st (.int 90) := c2
      clear h1 h2 e
      refine H.podiumref10_Check.view hmix rfl rfl ?_
      repeat' (first 
       | (with_reducible refine Fresh.intro fun b hb => ?_) <;> (try simp -dsimp -implicitDefEqProofs [*] at hb)
       | (with_reducible refine Rets.xcall (c1 _) ?_)
       | (with_reducible refine Rets.xcall (c2 _) ?_)
       | (simp -dsimp -implicitDefEqProofs [errB, *]))
      all_goals exact RetView.drop (st' := st) (by repeat' (first | exact StLe.refl _ | (refine StLe_cons (by simp [*]; done) ?_) | (refine StLe_fresh (by simp [*]; done) ?_))) ⟨rfl, rfl⟩
  · have e : ratOk s1 L1 s2 L2 = false := by simp [ratOk, h1]
    rw [e]
    rw [Bool.not_eq_true] at h1
    rw [h1] at c1
    have c1 : ∀ st, Rets P F.podiumref09_Check [.agg [.bool s1, intLst t1 L1]] st (.int 90) := c1
    clear h1 e
    refine H.podiumref10_Check.view hmix rfl rfl ?_
    repeat' (first 
     | (with_reducible refine Fresh.intro fun b hb => ?_) <;> (try simp -dsimp -implicitDefEqProofs [*] at hb)
     | (with_reducible refine Rets.xcall (c1 _) ?_)
     | (simp -dsimp -implicitDefEqProofs [errB, *]))
    all_goals exact RetView.drop (st' := st) (by repeat' (first | exact StLe.refl _ | (refine StLe_cons (by simp [*]; done) ?_) | (refine StLe_fresh (by simp [*]; done) ?_))) ⟨rfl, rfl⟩
theorem rCheck10_spec (s1 t1 s2 t2 : Bool) (L1 L2 : List Int) (_hl1 : L1.length ≤ 100000) (_hl2 : L2.length ≤ 100000) (st : Store) : Rets P F.podiumref10_Check [.agg [.bool s1, intLst t1 L1, .bool s2, intLst t2 L2]] st (.int (errB (ratOk s1 L1 s2 L2) 100)) := rCheck10_specW s1 t1 s2 t2 L1 L2 st
end Go.Proofs.Ytliglilanpfjhaa
/- The reference's ratios. -/
namespace Go.Proofs.Ytliglilanpfjhaa
open Go.Pv
set_option maxRecDepth 100000
set_option maxHeartbeats 16000000
theorem rInt_spec (n : Int) (h1 : -9223372036854775808 ≤ n) (h2 : n ≤ 9223372036854775807) (st : Store) : Rets P F.podiumref10_Int [.int n] st (.agg (zC false n ++ zC false 1)) := by
  have c1 := rMake_spec n h1 h2
  have c2 := rMake_spec 1 (by decide) (by decide)
  obtain ⟨A, hA⟩ : ∃ X, X = zC false n := ⟨_, rfl⟩
  obtain ⟨O, hO⟩ : ∃ X, X = zC false 1 := ⟨_, rfl⟩
  have lA : A.length = 2 := by rw [hA]; rfl
  have lO : O.length = 2 := by rw [hO]; rfl
  rw [← hA] at c1 ⊢
  rw [← hO] at c2 ⊢
  match A, lA, O, lO with
  | [a0, a1], _, [o0, o1], _ =>
  clear hA hO
  refine H.podiumref10_Int.view hmix rfl rfl ?_
  repeat' (first 
   | (with_reducible refine Fresh.intro fun b hb => ?_) <;> (try simp -dsimp -implicitDefEqProofs [*] at hb)
   | (with_reducible refine Rets.xcall (c1 _) ?_)
   | (with_reducible refine Rets.xcall (c2 _) ?_)
   | (simp -dsimp -implicitDefEqProofs [*]))
  exact RetView.drop (st' := st) (by repeat' (first | exact StLe.refl _ | (refine StLe_cons (by simp [*]; done) ?_) | (refine StLe_fresh (by simp [*]; done) ?_))) ⟨rfl, rfl⟩
theorem mk1 (n : Int) : rC false false (mkRat n 1) = zC false n ++ zC false 1 := by
  unfold rC
  have e : mkRat n 1 = (n : Rat) := by rw [Rat.mkRat_one]
  rw [e]
  rfl
theorem rInt_rat (n : Int) (h1 : -9223372036854775808 ≤ n) (h2 : n ≤ 9223372036854775807) (st : Store) : Rets P F.podiumref10_Int [.int n] st (.agg (rC false false (mkRat n 1))) := by
  rw [mk1]
  exact rInt_spec n h1 h2 st
theorem rCheck10_ok (t1 t2 : Bool) (q : Rat) (h : Small q) (st : Store) : Rets P F.podiumref10_Check [.agg (rC t1 t2 q)] st (.int 0) := by
  have := rCheck10_spec (decide (q.num < 0)) t1 false t2 (digs q.num.natAbs) (digs q.den) (by have := h.n; unfold dl at this; omega) (by have := h.d; unfold dl at this; omega) st
  rw [ratOk_of h] at this
  rw [rC_cells]
  exact this
end Go.Proofs.Ytliglilanpfjhaa
