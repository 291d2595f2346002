/- The reference's ratios. -/
import Derived.Test.YtiaebckdjklnoaaGreatG56ZA
namespace Go.Proofs.YtiaebckdjklnoaaGreat
open Go.Pv
set_option maxRecDepth 100000
set_option maxHeartbeats 16000000
theorem rInt_spec (n : Int) (h1 : -9223372036854775808 ≤ n) (h2 : n ≤ 9223372036854775807) (st : Store) : Rets P F.podiumref10_Int [.int n] st (.agg (zC false n ++ zC false 1)) := by
  have c1 := rMake_spec n h1 h2
  have c2 := rMake_spec 1 (by decide) (by decide)
  obtain ⟨A, hA⟩ : ∃ X, X = zC false n := ⟨_, rfl⟩
  obtain ⟨O, hO⟩ : ∃ X, X = zC false 1 := ⟨_, rfl⟩
  have lA : A.length = 2 := by rw [hA]; rfl
  have lO : O.length = 2 := by rw [hO]; rfl
  rw [← hA] at c1 ⊢
  rw [← hO] at c2 ⊢
  match A, lA, O, lO with
  | [a0, a1], _, [o0, o1], _ =>
  clear hA hO
  refine H.podiumref10_Int.view hmix rfl rfl ?_
  repeat' (first 
   | (with_reducible refine Fresh.intro fun b hb => ?_) <;> (try simp -dsimp -implicitDefEqProofs [*] at hb)
   | (with_reducible refine Rets.xcall (c1 _) ?_)
   | (with_reducible refine Rets.xcall (c2 _) ?_)
   | (simp -dsimp -implicitDefEqProofs [*]))
  exact RetView.drop (st' := st) (by repeat' (first | exact StLe.refl _ | (refine StLe_cons (by simp [*]; done) ?_) | (refine StLe_fresh (by simp [*]; done) ?_))) ⟨rfl, rfl⟩
theorem mk1 (n : Int) : rC false false (mkRat n 1) = zC false n ++ zC false 1 := by
  unfold rC
  have e : mkRat n 1 = (n : Rat) := by rw [Rat.mkRat_one]
  rw [e]
  rfl
theorem rInt_rat (n : Int) (h1 : -9223372036854775808 ≤ n) (h2 : n ≤ 9223372036854775807) (st : Store) : Rets P F.podiumref10_Int [.int n] st (.agg (rC false false (mkRat n 1))) := by
  rw [mk1]
  exact rInt_spec n h1 h2 st
theorem rCheck10_ok (t1 t2 : Bool) (q : Rat) (h : Small q) (st : Store) : Rets P F.podiumref10_Check [.agg (rC t1 t2 q)] st (.int 0) := by
  have := rCheck10_spec (decide (q.num < 0)) t1 false t2 (digs q.num.natAbs) (digs q.den) (by have := h.n; unfold dl at this; omega) (by have := h.d; unfold dl at this; omega) st
  rw [ratOk_of h] at this
  rw [rC_cells]
  exact this
theorem rValid_ok (t1 t2 t3 t4 : Bool) (a b : Rat) (ha : Small a) (hb : Small b) (st : Store) : Rets P F.podiumref10_valid [.agg (rC t1 t2 a), .agg (rC t3 t4 b)] st (.bool true) := by
  have c1 := rCheck10_ok t1 t2 a ha
  have c2 := rCheck10_ok t3 t4 b hb
  obtain ⟨A, hA⟩ : ∃ X, X = rC t1 t2 a := ⟨_, rfl⟩
  obtain ⟨B, hB⟩ : ∃ X, X = rC t3 t4 b := ⟨_, rfl⟩
  have lA : A.length = 4 := by rw [hA]; rfl
  have lB : B.length = 4 := by rw [hB]; rfl
  rw [← hA] at c1 ⊢
  rw [← hB] at c2 ⊢
  have fA := cells_sub lA
  have fB := cells_sub lB
  clear hA hB
  refine H.podiumref10_valid.pure hmix rfl rfl ?_
  repeat' (first 
   | (with_reducible refine Fresh.intro fun b hb => ?_) <;> (try simp -dsimp -implicitDefEqProofs [*] at hb)
   | (with_reducible refine Rets.xcall (c1 _) ?_)
   | (with_reducible refine Rets.xcall (c2 _) ?_)
   | (simp -dsimp -implicitDefEqProofs [*]))
theorem rCross_spec (t1 t2 t3 t4 : Bool) (a b : Rat) (ha : Small a) (hb : Small b) (h1 : dl (a.num * b.den).natAbs ≤ 2048) (h2 : dl (b.num * a.den).natAbs ≤ 2048) (st : Store) :
    Rets P F.podiumref10_cross [.agg (rC t1 t2 a), .agg (rC t3 t4 b)] st (.tuple [.agg (zC false (a.num * b.den)), .agg (zC false (b.num * a.den)), .int 0]) := by
  have c1 := rMul_spec t1 t4 a.num b.den ha.n hb.d h1
  have c2 := rMul_spec t3 t2 b.num a.den hb.n ha.d h2
  unfold rC
  obtain ⟨A, hA⟩ : ∃ X, X = zC t1 a.num := ⟨_, rfl⟩
  obtain ⟨B, hB⟩ : ∃ X, X = zC t2 a.den := ⟨_, rfl⟩
  obtain ⟨C, hC⟩ : ∃ X, X = zC t3 b.num := ⟨_, rfl⟩
  obtain ⟨D, hD⟩ : ∃ X, X = zC t4 b.den := ⟨_, rfl⟩
  obtain ⟨X, hX⟩ : ∃ X, X = zC false (a.num * b.den) := ⟨_, rfl⟩
  obtain ⟨Y, hY⟩ : ∃ X, X = zC false (b.num * a.den) := ⟨_, rfl⟩
  have lA : A.length = 2 := by rw [hA]; rfl
  have lB : B.length = 2 := by rw [hB]; rfl
  have lC : C.length = 2 := by rw [hC]; rfl
  have lD : D.length = 2 := by rw [hD]; rfl
  have lX : X.length = 2 := by rw [hX]; rfl
  have lY : Y.length = 2 := by rw [hY]; rfl
  rw [← hA, ← hD, ← hX] at c1
  rw [← hB, ← hC, ← hY] at c2
  rw [← hA, ← hB, ← hC, ← hD, ← hX, ← hY]
  match A, lA, B, lB, C, lC, D, lD, X, lX, Y, lY with
  | [a0, a1], _, [b0, b1], _, [c0, c1'], _, [d0, d1], _, [x0, x1], _, [y0, y1], _ =>
  clear hA hB hC hD hX hY ha hb h1 h2
  refine H.podiumref10_cross.view hmix rfl rfl ?_
  repeat' (first 
   | (with_reducible refine Fresh.intro fun b hb => ?_) <;> (try simp -dsimp -implicitDefEqProofs [*] at hb)
   | (with_reducible refine Rets.xcall (c1 _) ?_)
   | (with_reducible refine Rets.xcall (c2 _) ?_)
   | (simp -dsimp -implicitDefEqProofs [*]))
  revert b
  revert b
  revert b
  revert b
  revert b
  revert b
  intro p2 hp2 p3 hp3 p4 hp4 p5 hp5 p7 hp7 p9 hp9
  refine DrawLate.intro [p4] ?_
  repeat' (first 
   | (with_reducible refine Cls_and ?_ ?_)
   | (with_reducible exact Cls.self _ _)
   | (with_reducible refine Cls_same ?_)
   | (with_reducible refine Cls_in ?_ ?_)
   | (simp -dsimp -implicitDefEqProofs [*]))
  exact RetView.drop (st' := st) (by repeat' (first | exact StLe.refl _ | (refine StLe_cons (by simp [*]; done) ?_) | (refine StLe_fresh (by simp [*]; done) ?_))) ⟨rfl, rfl⟩
theorem rCmp10_spec (t1 t2 t3 t4 : Bool) (a b : Rat) (ha : Small a) (hb : Small b) (h1 : dl (a.num * b.den).natAbs ≤ 2048) (h2 : dl (b.num * a.den).natAbs ≤ 2048) (st : Store) : Rets P F.podiumref10_Cmp [.agg (rC t1 t2 a), .agg (rC t3 t4 b)] st (.tuple [.int (cmpR a b), .int 0]) := by
  have c1 := rValid_ok t1 t2 t3 t4 a b ha hb
  have c2 := rCross_spec t1 t2 t3 t4 a b ha hb h1 h2
  have c3 := rCmp09_spec false false (a.num * b.den) (b.num * a.den) h1 h2
  rw [← cmpR_eq] at c3
  obtain ⟨A, hA⟩ : ∃ X, X = rC t1 t2 a := ⟨_, rfl⟩
  obtain ⟨B, hB⟩ : ∃ X, X = rC t3 t4 b := ⟨_, rfl⟩
  obtain ⟨X, hX⟩ : ∃ X, X = zC false (a.num * b.den) := ⟨_, rfl⟩
  obtain ⟨Y, hY⟩ : ∃ X, X = zC false (b.num * a.den) := ⟨_, rfl⟩
  obtain ⟨c, hc⟩ : ∃ X, X = cmpR a b := ⟨_, rfl⟩
  have lA : A.length = 4 := by rw [hA]; rfl
  have lB : B.length = 4 := by rw [hB]; rfl
  have lX : X.length = 2 := by rw [hX]; rfl
  have lY : Y.length = 2 := by rw [hY]; rfl
  rw [← hA, ← hB] at c1 c2 ⊢
  rw [← hX, ← hY] at c2 c3
  rw [← hc] at c3 ⊢
  have fA := cells_sub lA
  have fB := cells_sub lB
  have fX := cells_sub lX
  have fY := cells_sub lY
  have aX : setCells [.bool false, .nil] 0 X = X := setCells_all X _ lX
  have aY : setCells [.bool false, .nil] 0 Y = Y := setCells_all Y _ lY
  clear hA hB hX hY hc ha hb h1 h2
  refine H.podiumref10_Cmp.view hmix rfl rfl ?_
  repeat' (first 
   | (with_reducible refine Fresh.intro fun b hb => ?_) <;> (try simp -dsimp -implicitDefEqProofs [*] at hb)
   | (with_reducible refine Rets.xcall (c1 _) ?_)
   | (with_reducible refine Rets.xcall (c2 _) ?_)
   | (with_reducible refine Rets.xcall (c3 _) ?_)
   | (simp -dsimp -implicitDefEqProofs [*]))
  exact RetView.drop (st' := st) (by repeat' (first | exact StLe.refl _ | (refine StLe_cons (by simp [*]; done) ?_) | (refine StLe_fresh (by simp [*]; done) ?_))) ⟨rfl, rfl⟩
theorem rOver_spec {X B D Y R : List PV} (lX : X.length = 2) (lB : B.length = 2) (lD : D.length = 2) (lY : Y.length = 2) (lR : R.length = 4) (c1 : ∀ st, Rets P F.podiumref09_Mul [.agg B, .agg D] st (.tuple [.agg Y, .int 0]))
    (c2 : ∀ st, Rets P F.podiumref10_Of [.agg X, .agg Y] st (.tuple [.agg R, .int 0])) (st : Store) : Rets P F.podiumref10_over [.agg X, .int 0, .agg B, .agg D] st (.tuple [.agg R, .int 0]) := by
  match X, lX, B, lB, D, lD, Y, lY, R, lR with
  | [x0, x1], _, [b0, b1], _, [d0, d1], _, [y0, y1], _, [r0, r1, r2, r3], _ =>
  refine H.podiumref10_over.view hmix rfl rfl ?_
  repeat' (first 
   | (with_reducible refine Fresh.intro fun b hb => ?_) <;> (try simp -dsimp -implicitDefEqProofs [*] at hb)
   | (with_reducible refine Rets.xcall (c1 _) ?_)
   | (with_reducible refine Rets.xcall (c2 _) ?_)
   | (simp -dsimp -implicitDefEqProofs [*]))
  exact RetView.drop (st' := st) (by repeat' (first | exact StLe.refl _ | (refine StLe_cons (by simp [*]; done) ?_) | (refine StLe_fresh (by simp [*]; done) ?_))) ⟨rfl, rfl⟩
theorem rMul10_spec (t1 t2 t3 t4 : Bool) (a b : Rat) (h : MulSmall a b) (st : Store) : Rets P F.podiumref10_Mul [.agg (rC t1 t2 a), .agg (rC t3 t4 b)] st (.tuple [.agg (rC false false (a * b)), .int 0]) := by
  have hd : a.den * b.den ≠ 0 := Nat.mul_ne_zero a.den_nz b.den_nz
  obtain ⟨g, hg, e1, e2⟩ := mkRat_parts (a.num * b.num) hd
  rw [← rat_mul_mk] at e1 e2
  have c0 := rOf10_spec (a * b).num (a * b).den g (a * b).den_nz hg (a * b).reduced false false (by rw [← e1]; exact h.n) (by rw [← e2]; exact h.d)
  rw [← e1, ← e2] at c0
  have e3 : ((a.den : Int) * (b.den : Int)) = ((a.den * b.den : Nat) : Int) := by push_cast; rfl
  have c1 := rValid_ok t1 t2 t3 t4 a b h.sa h.sb
  have c2 := rMul_spec t1 t3 a.num b.num h.sa.n h.sb.n h.n
  have c3 := rMul_spec t2 t4 a.den b.den h.sa.d h.sb.d (by have := h.d; rw [Int.natAbs_mul]; exact this)
  rw [e3] at c3
  have c4 := rOver_spec (X := zC false (a.num * b.num)) (B := zC t2 a.den) (D := zC t4 b.den) rfl rfl rfl rfl rfl c3 c0
  have c4 : ∀ st, Rets P F.podiumref10_over [.agg (zC false (a.num * b.num)), .int 0, .agg (zC t2 a.den), .agg (zC t4 b.den)] st (.tuple [.agg (rC false false (a * b)), .int 0]) := c4
  clear c3 c0 e3 e1 e2 hg hd
  have eA : rC t1 t2 a = zC t1 a.num ++ zC t2 a.den := rfl
  have eB : rC t3 t4 b = zC t3 b.num ++ zC t4 b.den := rfl
  rw [eA, eB] at c1 ⊢
  obtain ⟨A, hA⟩ : ∃ X, X = zC t1 a.num := ⟨_, rfl⟩
  obtain ⟨B, hB⟩ : ∃ X, X = zC t2 a.den := ⟨_, rfl⟩
  obtain ⟨C, hC⟩ : ∃ X, X = zC t3 b.num := ⟨_, rfl⟩
  obtain ⟨D, hD⟩ : ∃ X, X = zC t4 b.den := ⟨_, rfl⟩
  obtain ⟨X, hX⟩ : ∃ X, X = zC false (a.num * b.num) := ⟨_, rfl⟩
  obtain ⟨R, hR⟩ : ∃ X, X = rC false false (a * b) := ⟨_, rfl⟩
  have lA : A.length = 2 := by rw [hA]; rfl
  have lB : B.length = 2 := by rw [hB]; rfl
  have lC : C.length = 2 := by rw [hC]; rfl
  have lD : D.length = 2 := by rw [hD]; rfl
  have lX : X.length = 2 := by rw [hX]; rfl
  have lR : R.length = 4 := by rw [hR]; rfl
  rw [← hA, ← hB, ← hC, ← hD] at c1 ⊢
  rw [← hA, ← hC, ← hX] at c2
  rw [← hB, ← hD, ← hX, ← hR] at c4
  rw [← hR]
  match A, lA, B, lB, C, lC, D, lD, X, lX, R, lR with
  | [a0, a1], _, [b0, b1], _, [c0, c1'], _, [d0, d1], _, [x0, x1], _, [r0, r1, r2, r3], _ =>
  clear hA hB hC hD hX hR h eA eB
  simp only [List.cons_append, List.nil_append] at c1
  refine H.podiumref10_Mul.view hmix rfl rfl ?_
  repeat' (first 
   | (with_reducible refine Fresh.intro fun b hb => ?_) <;> (try simp -dsimp -implicitDefEqProofs [*] at hb)
   | (with_reducible refine Rets.xcall (c1 _) ?_)
   | (with_reducible refine Rets.xcall (c2 _) ?_)
   | (with_reducible refine Rets.xcall (c4 _) ?_)
   | (simp -dsimp -implicitDefEqProofs [*]))
  exact RetView.drop (st' := st) (by repeat' (first | exact StLe.refl _ | (refine StLe_cons (by simp [*]; done) ?_) | (refine StLe_fresh (by simp [*]; done) ?_))) ⟨rfl, rfl⟩
end Go.Proofs.YtiaebckdjklnoaaGreat
