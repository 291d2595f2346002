/- Package risk: Need. -/
import Derived.Test.YtiaebckdjklnoaaS56R
namespace Go.Proofs.Ytiaebckdjklnoaa
open Go.Pv
set_option maxRecDepth 100000
set_option maxHeartbeats 4000000
/-- The number that digits stand for. -/
def ratV (s1 : Bool) (L1 L2 : List Int) : Rat := mkRat (if s1 then -dv L1 else dv L1) (dv L2).toNat
theorem IsRat.val {s1 s2 : Bool} {L1 L2 : List Int} {q : Rat} (h : IsRat s1 L1 s2 L2 q) : ratV s1 L1 L2 = q := by
  obtain ⟨rfl, rfl, -, rfl, -, -⟩ := h
  unfold ratV
  rw [dv_digs_nat, dv_digs]
  have e : (if decide (q.num < 0) = true then -((q.num.natAbs : Nat) : Int) else (q.num.natAbs : Nat)) = q.num := by
    simp only [decide_eq_true_eq]
    split <;> omega
  rw [e]
  exact Rat.mkRat_self q
def needE (n w : Int) (s1 : Bool) (L1 : List Int) (s2 : Bool) (L2 : List Int) : Int :=
  if (wi n 4096 && wi w n) = false then 1 else if ratOk s1 L1 s2 L2 = false then 100 else if 0 < ratV s1 L1 L2 ∧ ratV s1 L1 L2 ≤ 1 ∧ w ≠ 0 then 0 else 560
def needK (n w : Int) (s1 : Bool) (L1 : List Int) (s2 : Bool) (L2 : List Int) : Int :=
  if needE n w s1 L1 s2 L2 = 0 then needR n.toNat w.toNat (ratV s1 L1 L2) else 0
/-- Short, or too long. -/
def Few3 (L : List Int) : Prop := L.length ≤ 4 ∨ 2048 < L.length ∧ L.length ≤ 100000
theorem few_dl {q : Rat} (h1 : dl q.num.natAbs ≤ 4) (h2 : dl q.den ≤ 4) : Small q := ⟨by omega, by omega⟩
theorem dl_pow {k m : Nat} (hk : k ≤ 40) (h : m ≤ 4096 ^ k) : dl m ≤ 17 := by
  refine dl_le.2 ?_
  have e1 : 4096 ^ k ≤ 4096 ^ 40 := Nat.pow_le_pow_right (by decide) hk
  have e2 : (4096 : Nat) ^ 40 < 1073741824 ^ 17 := by decide
  omega
theorem dl_mul_nat (a : Int) (d : Nat) : dl (a * d).natAbs ≤ dl a.natAbs + dl d := by
  rw [Int.natAbs_mul]
  exact dl_mul _ _
theorem need1_spec (n w i p : Nat) (hn : n ≤ 40) (hi : i ≤ n) (t1 t2 : Bool) (q : Rat) (h1 : dl q.num.natAbs ≤ 4) (h2 : dl q.den ≤ 4) (U : TypeId) (st : Store) (hp : sget st p = some (.arr U (rC t1 t2 q))) :
    Rets P F.risk_Need_1 [.int i, .agg (rC false false (missR n w i)), .ptr p 0] st (.bool (decide (missR n w i ≤ q))) := by
  obtain ⟨m1, m2⟩ := missR_small (w := w) (show n ≤ 4096 by omega) hi
  have d1 := dl_pow (show i ≤ 40 by omega) m1
  have d2 := dl_pow (show i ≤ 40 by omega) m2
  have c := ratCmp_spec false false t1 t2 (missR n w i) q ⟨by omega, by omega⟩ (few_dl h1 h2)
    (Nat.le_trans (dl_mul_nat _ _) (by omega)) (Nat.le_trans (dl_mul_nat _ _) (by omega))
  have e : decide (missR n w i ≤ q) = decide (cmpR (missR n w i) q ≤ 0) := decide_eq_decide.2 cmpR_le.symm
  rw [e]
  obtain ⟨r, hr⟩ : ∃ r, r = cmpR (missR n w i) q := ⟨_, rfl⟩
  obtain ⟨A, hA⟩ : ∃ A, A = rC false false (missR n w i) := ⟨_, rfl⟩
  obtain ⟨B, hB⟩ : ∃ A, A = rC t1 t2 q := ⟨_, rfl⟩
  have lA : A.length = 4 := by rw [hA]; rfl
  have lB : B.length = 4 := by rw [hB]; rfl
  rw [← hA, ← hB, ← hr] at c
  rw [← hA, ← hr]
  rw [← hB] at hp
  have f1 := cells_sub lA
  have f2 := cells_sub lB
  clear hA hB hr e d1 d2 m1 m2
  refine H.risk_Need_1.pure hmix rfl rfl ?_
  repeat' (first 
   | (with_reducible refine Fresh.intro fun b hb => ?_) <;> (try simp -dsimp -implicitDefEqProofs [*] at hb)
   | (simp -dsimp -implicitDefEqProofs [*]))
  have hne := snew_ne hb hp
  repeat' (first 
   | (with_reducible refine Rets.xcall (c _) ?_)
   | (simp -dsimp -implicitDefEqProofs [*]))
theorem need_spec (n w : Int) (hn : n ≤ 40 ∨ 4096 < n) (s1 t1 s2 t2 : Bool) (L1 L2 : List Int) (hl1 : Few3 L1) (hl2 : Few3 L2) (st : Store) :
    Rets P F.risk_Need [.int n, .int w, .agg [.bool s1, intLst t1 L1, .bool s2, intLst t2 L2]] st (.tuple [.int (needK n w s1 L1 s2 L2), .int (needE n w s1 L1 s2 L2)]) := by
  have c1 := within_spec n 4096
  have c2 := within_spec w n
  have c3 := ratCheck_spec s1 t1 s2 t2 L1 L2 (by unfold Few3 at hl1; omega) (by unfold Few3 at hl2; omega)
  have fin : ∀ e : Int, needE n w s1 L1 s2 L2 = e → e ≠ 0 → Rets P F.risk_Need [.int n, .int w, .agg [.bool s1, intLst t1 L1, .bool s2, intLst t2 L2]] st (.tuple [.int 0, .int e]) → Rets P F.risk_Need [.int n, .int w, .agg [.bool s1, intLst t1 L1, .bool s2, intLst t2 L2]] st (.tuple [.int (needK n w s1 L1 s2 L2), .int (needE n w s1 L1 s2 L2)]) := by
    intro e h1 h2 h3
    unfold needK
    rw [h1, if_neg h2]
    exact h3
  cases h1 : wi n 4096 with
  | false =>
    rw [h1] at c1
    refine fin 1 (by simp [needE, h1]) (by decide) ?_
    clear h1 c2 c3 fin
    refine H.risk_Need.view hmix rfl rfl ?_
    repeat' (first 
     | (with_reducible refine Fresh.intro fun b hb => ?_) <;> (try simp -dsimp -implicitDefEqProofs [*] at hb)
     | (with_reducible refine Rets.xcall (c1 _) ?_)
     | (simp -dsimp -implicitDefEqProofs [*]))
    exact RetView.drop (st' := st) (by repeat' (first | exact StLe.refl _ | (refine StLe_cons (by simp [*]; done) ?_) | (refine StLe_fresh (by simp [*]; done) ?_))) ⟨rfl, rfl⟩
  | true =>
    rw [h1] at c1
    cases h2 : wi w n with
    | false =>
      rw [h2] at c2
      refine fin 1 (by simp [needE, h1, h2]) (by decide) ?_
      clear h1 h2 c3 fin
      refine H.risk_Need.view hmix rfl rfl ?_
      repeat' (first 
       | (with_reducible refine Fresh.intro fun b hb => ?_) <;> (try simp -dsimp -implicitDefEqProofs [*] at hb)
       | (with_reducible refine Rets.xcall (c1 _) ?_)
       | (with_reducible refine Rets.xcall (c2 _) ?_)
       | (simp -dsimp -implicitDefEqProofs [*]))
      exact RetView.drop (st' := st) (by repeat' (first | exact StLe.refl _ | (refine StLe_cons (by simp [*]; done) ?_) | (refine StLe_fresh (by simp [*]; done) ?_))) ⟨rfl, rfl⟩
    | true =>
      rw [h2] at c2
      cases h3 : ratOk s1 L1 s2 L2 with
      | false =>
        rw [h3] at c3
        refine fin 100 (by simp [needE, h1, h2, h3]) (by decide) ?_
        have c3 : ∀ st, Rets P F.ratio_Check [.agg [.bool s1, intLst t1 L1, .bool s2, intLst t2 L2]] st (.int 100) := c3
        clear h1 h2 h3 fin
        refine H.risk_Need.view hmix rfl rfl ?_
        repeat' (first 
         | (with_reducible refine Fresh.intro fun b hb => ?_) <;> (try simp -dsimp -implicitDefEqProofs [*] at hb)
         | (with_reducible refine Rets.xcall (c1 _) ?_)
         | (with_reducible refine Rets.xcall (c2 _) ?_)
         | (with_reducible refine Rets.xcall (c3 _) ?_)
         | (simp -dsimp -implicitDefEqProofs [*]))
        exact RetView.drop (st' := st) (by repeat' (first | exact StLe.refl _ | (refine StLe_cons (by simp [*]; done) ?_) | (refine StLe_fresh (by simp [*]; done) ?_))) ⟨rfl, rfl⟩
      | true =>
        rw [h3] at c3
        have c3 : ∀ st, Rets P F.ratio_Check [.agg [.bool s1, intLst t1 L1, .bool s2, intLst t2 L2]] st (.int 0) := c3
        obtain ⟨q, hq⟩ := ratOk_iff.1 h3
        obtain ⟨N, rfl⟩ : ∃ N : Nat, n = N := ⟨n.toNat, by simp [wi] at h1; omega⟩
        obtain ⟨W, rfl⟩ : ∃ W : Nat, w = W := ⟨w.toNat, by simp [wi] at h2; omega⟩
        have hN : N ≤ 40 := by simp [wi] at h1; omega
        have hW : W ≤ N := by simp [wi] at h2; omega
        have eV := IsRat.val hq
        have d1 : dl q.num.natAbs ≤ 4 := by have := hq.n; have e := congrArg List.length hq.L1; unfold Few3 at hl1; unfold dl at *; omega
        have d2 : dl q.den ≤ 4 := by have := hq.d; have e := congrArg List.length hq.L2; unfold Few3 at hl2; unfold dl at *; omega
        have lL1 : L1.length ≤ 4 := by have e := congrArg List.length hq.L1; unfold dl at d1; omega
        have lL2 : L2.length ≤ 4 := by have e := congrArg List.length hq.L2; unfold dl at d2; omega
        have eE : needE N W s1 L1 s2 L2 = if 0 < q ∧ q ≤ 1 ∧ (W : Int) ≠ 0 then 0 else 560 := by
          unfold needE
          rw [h1, h2, h3, eV]
          simp
        have ec := hq.cells t1 t2
        have z0 := whole_spec 0 (by decide) (by decide)
        have z1 := whole_spec 1 (by decide) (by decide)
        have k0 := ratCmp_spec t1 t2 false false q (mkRat 0 1) (few_dl d1 d2) ⟨Nat.le_trans (dl_one (by decide)) (by decide), Nat.le_trans (dl_one (by decide)) (by decide)⟩ (Nat.le_trans (dl_mul_nat _ _) (by have : dl (mkRat 0 1).den ≤ 1 := dl_one (by decide); omega)) (Nat.le_trans (dl_mul_nat _ _) (by have : dl (mkRat 0 1).num.natAbs ≤ 1 := dl_one (by decide); omega))
        have k1 := ratCmp_spec t1 t2 false false q (mkRat 1 1) (few_dl d1 d2) ⟨Nat.le_trans (dl_one (by decide)) (by decide), Nat.le_trans (dl_one (by decide)) (by decide)⟩ (Nat.le_trans (dl_mul_nat _ _) (by have : dl (mkRat 1 1).den ≤ 1 := dl_one (by decide); omega)) (Nat.le_trans (dl_mul_nat _ _) (by have : dl (mkRat 1 1).num.natAbs ≤ 1 := dl_one (by decide); omega))
        have g0 : cmpR q (mkRat 0 1) ≤ 0 ↔ ¬ 0 < q := by rw [cmpR_le, Rat.not_lt]; exact Iff.rfl
        have g1 : 0 < cmpR q (mkRat 1 1) ↔ ¬ q ≤ 1 := by
          have := cmpR_le (a := q) (b := mkRat 1 1)
          have e : mkRat 1 1 = (1 : Rat) := rfl
          rw [e] at this ⊢
          rw [← this]; omega
        rw [← ec] at k0 k1
        obtain ⟨r0, hr0⟩ : ∃ r, r = cmpR q (mkRat 0 1) := ⟨_, rfl⟩
        obtain ⟨r1, hr1⟩ : ∃ r, r = cmpR q (mkRat 1 1) := ⟨_, rfl⟩
        rw [← hr0] at k0 g0
        rw [← hr1] at k1 g1
        obtain ⟨Z0, hZ0⟩ : ∃ Z, Z = rC false false (mkRat 0 1) := ⟨_, rfl⟩
        obtain ⟨Z1, hZ1⟩ : ∃ Z, Z = rC false false (mkRat 1 1) := ⟨_, rfl⟩
        rw [← hZ0] at z0 k0
        rw [← hZ1] at z1 k1
        have hmx : ¬ (1024 : Int) < if L1.length < L2.length then (L2.length : Int) else L1.length := by split <;> omega
        clear hZ0 hZ1 hr0 hr1
        by_cases q0 : 0 < q
        · by_cases q1 : q ≤ 1
          · have m0 : ¬ r0 ≤ 0 := fun h => g0.1 h q0
            have m1 : ¬ 0 < r1 := fun h => g1.1 h q1
            by_cases w0 : W = 0
            · refine fin 560 (by rw [eE, if_neg (by simp [w0])]) (by decide) ?_
              subst w0
              have c2 : ∀ st, Rets P F.risk_within [.int 0, .int N] st (.bool true) := c2
              clear eE eV ec d1 d2 lL1 lL2 h1 h2 h3 hq hn hl1 hl2 fin g0 g1 q0 q1
              refine H.risk_Need.view hmix rfl rfl ?_
              repeat' (first 
               | (with_reducible refine Fresh.intro fun b hb => ?_) <;> (try simp -dsimp -implicitDefEqProofs [*] at hb)
               | (with_reducible refine Rets.xcall (c1 _) ?_)
               | (with_reducible refine Rets.xcall (c2 _) ?_)
               | (with_reducible refine Rets.xcall (c3 _) ?_)
               | (with_reducible refine Rets.xcall (z0 _) ?_)
               | (with_reducible refine Rets.xcall (z1 _) ?_)
               | (with_reducible refine Rets.xcall (k0 _) ?_)
               | (with_reducible refine Rets.xcall (k1 _) ?_)
               | (with_reducible refine DrawLate.intro [] ?_)
               | (simp -dsimp -implicitDefEqProofs [*]))
              exact RetView.drop (st' := st) (by repeat' (first | exact StLe.refl _ | (refine StLe_cons (by simp [*]; done) ?_) | (refine StLe_fresh (by simp [*]; done) ?_))) ⟨rfl, rfl⟩
            · have eK : needK N W s1 L1 s2 L2 = needR N W q := by
                have e0 : needE N W s1 L1 s2 L2 = 0 := by rw [eE, if_pos ⟨q0, q1, by omega⟩]
                unfold needK
                rw [if_pos e0, eV]; rfl
              rw [eK, eE, if_pos ⟨q0, q1, by omega⟩]
              have nR := needR_spec (needR_last (show 0 < W by omega) hW q0)
              have hy := chances1_gives N W (by omega) hW
              have n1 := fun (i p : Nat) hi => need1_spec N W i p hN hi t1 t2 q d1 d2
              have H1 : ∃ V : Nat → List PV, ∀ i, V i = rC false false (missR N W i) := ⟨fun i => rC false false (missR N W i), fun _ => rfl⟩
              obtain ⟨V, hV⟩ := H1
              have lV : ∀ i, (V i).length = 4 := fun i => by rw [hV]; rfl
              simp only [← hV] at hy n1
              simp only [← ec] at n1
              clear hV eE eK eV ec d1 d2 lL1 lL2 h1 h2 h3 hq hn hl1 hl2 fin g0 g1 q0 q1
              obtain ⟨K, hK⟩ : ∃ K, K = needR N W q := ⟨_, rfl⟩
              rw [← hK] at nR ⊢
              clear hK
              have nR : Hid _ := ⟨nR⟩
              refine H.risk_Need.view hmix rfl rfl ?_
              repeat' (first 
               | (with_reducible refine Fresh.intro fun b hb => ?_) <;> (try simp -dsimp -implicitDefEqProofs [*] at hb)
               | (with_reducible refine Rets.xcall (c1 _) ?_)
               | (with_reducible refine Rets.xcall (c2 _) ?_)
               | (with_reducible refine Rets.xcall (c3 _) ?_)
               | (with_reducible refine Rets.xcall (z0 _) ?_)
               | (with_reducible refine Rets.xcall (z1 _) ?_)
               | (with_reducible refine Rets.xcall (k0 _) ?_)
               | (with_reducible refine Rets.xcall (k1 _) ?_)
               | (with_reducible refine Rets.xcall (chances_spec _ _ _) ?_)
               | (with_reducible refine DrawLate.intro [] ?_)
               | (simp -dsimp -implicitDefEqProofs [*]))
              revert b
              intro p hp
              have hF := first_spec F.risk_chances_1 F.risk_Need_1 [] [.iptr [.int N] 0, .iptr [.int W] 0] [.ptr p 0] H.risk_chances_1.enters (N + 1) K V lV hy ((p, .arr T.apiRatio [.bool s1, intLst t1 L1, .bool s2, intLst t2 L2]) :: st) (fun i => decide (missR N W i ≤ q))
                (fun i st' hi hs => n1 i p (by omega) T.apiRatio st' (hs _ _ (by simp))) (by have := nR.out.1; omega) (by simpa using nR.out.2.1) (fun j hj => by simpa using nR.out.2.2 j hj)
              clear hy n1
              repeat' (first 
               | (with_reducible refine Rets.xcall (hF) ?_)
               | (simp -dsimp -implicitDefEqProofs [*]))
              exact RetView.drop (st' := st) (by repeat' (first | exact StLe.refl _ | (refine StLe_cons (by simp [*]; done) ?_) | (refine StLe_fresh (by simp [*]; done) ?_))) ⟨rfl, rfl⟩
          · have m0 : ¬ r0 ≤ 0 := fun h => g0.1 h q0
            have m1 : 0 < r1 := g1.2 q1
            refine fin 560 (by rw [eE, if_neg (fun h => q1 h.2.1)]) (by decide) ?_
            clear eE eV ec d1 d2 lL1 lL2 h1 h2 h3 hq hn hl1 hl2 fin g0 g1 q0 q1
            refine H.risk_Need.view hmix rfl rfl ?_
            repeat' (first 
             | (with_reducible refine Fresh.intro fun b hb => ?_) <;> (try simp -dsimp -implicitDefEqProofs [*] at hb)
             | (with_reducible refine Rets.xcall (c1 _) ?_)
             | (with_reducible refine Rets.xcall (c2 _) ?_)
             | (with_reducible refine Rets.xcall (c3 _) ?_)
             | (with_reducible refine Rets.xcall (z0 _) ?_)
             | (with_reducible refine Rets.xcall (z1 _) ?_)
             | (with_reducible refine Rets.xcall (k0 _) ?_)
             | (with_reducible refine Rets.xcall (k1 _) ?_)
             | (with_reducible refine DrawLate.intro [] ?_)
             | (simp -dsimp -implicitDefEqProofs [*]))
            exact RetView.drop (st' := st) (by repeat' (first | exact StLe.refl _ | (refine StLe_cons (by simp [*]; done) ?_) | (refine StLe_fresh (by simp [*]; done) ?_))) ⟨rfl, rfl⟩
        · have m0 : r0 ≤ 0 := g0.2 q0
          refine fin 560 (by rw [eE, if_neg (fun h => q0 h.1)]) (by decide) ?_
          clear eE eV ec d1 d2 lL1 lL2 h1 h2 h3 hq hn hl1 hl2 fin g0 g1 q0
          refine H.risk_Need.view hmix rfl rfl ?_
          repeat' (first 
           | (with_reducible refine Fresh.intro fun b hb => ?_) <;> (try simp -dsimp -implicitDefEqProofs [*] at hb)
           | (with_reducible refine Rets.xcall (c1 _) ?_)
           | (with_reducible refine Rets.xcall (c2 _) ?_)
           | (with_reducible refine Rets.xcall (c3 _) ?_)
           | (with_reducible refine Rets.xcall (z0 _) ?_)
           | (with_reducible refine Rets.xcall (z1 _) ?_)
           | (with_reducible refine Rets.xcall (k0 _) ?_)
           | (with_reducible refine Rets.xcall (k1 _) ?_)
           | (with_reducible refine DrawLate.intro [] ?_)
           | (simp -dsimp -implicitDefEqProofs [*]))
          exact RetView.drop (st' := st) (by repeat' (first | exact StLe.refl _ | (refine StLe_cons (by simp [*]; done) ?_) | (refine StLe_fresh (by simp [*]; done) ?_))) ⟨rfl, rfl⟩
end Go.Proofs.Ytiaebckdjklnoaa
