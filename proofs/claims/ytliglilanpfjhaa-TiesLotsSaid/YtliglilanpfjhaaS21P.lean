/- Package ratio: comparing, lowest terms. -/
import Derived.Test.YtliglilanpfjhaaS21N
import Derived.Test.YtliglilanpfjhaaLRt
import Derived.Test.YtliglilanpfjhaaLRg
namespace Go.Proofs.Ytliglilanpfjhaa
open Go.Pv
set_option maxRecDepth 100000
set_option maxHeartbeats 4000000
theorem zC_nat (t : Bool) (n : Nat) : zC t (n : Int) = [.bool false, intLst t (digs n)] := by
  have h : ¬ (n : Int) < 0 := by omega
  unfold zC
  rw [decide_eq_false h]; rfl
theorem ratCmp_spec (t1 t2 t3 t4 : Bool) (a b : Rat) (ha : Small a) (hb : Small b) (h1 : dl (a.num * b.den).natAbs ≤ 2048) (h2 : dl (b.num * a.den).natAbs ≤ 2048) (st : Store) : Rets P F.ratio_Cmp [.agg (rC t1 t2 a), .agg (rC t3 t4 b)] st (.tuple [.int (cmpR a b), .int 0]) := by
  have c1 := valid_ok t1 t2 t3 t4 a b ha hb
  have c2 := products_spec t1 t4 t3 t2 a.num b.den b.num a.den ha.n hb.d hb.n ha.d h1 h2
  have c3 := natCmp_spec false false (a.num * b.den) (b.num * a.den) h1 h2
  rw [← cmpR_eq] at c3
  obtain ⟨p0, hp0⟩ : ∃ p, p = a.num * (b.den : Int) := ⟨_, rfl⟩
  obtain ⟨p1, hp1⟩ : ∃ p, p = b.num * (a.den : Int) := ⟨_, rfl⟩
  rw [← hp0, ← hp1] at c2 c3
  rw [zC_nat, zC_nat] at c2
  rw [rC_cells, rC_cells] at c1 ⊢
  unfold zC at c2 c3
  obtain ⟨c, hc⟩ : ∃ c, c = cmpR a b := ⟨_, rfl⟩
  rw [← hc] at c3 ⊢
  obtain ⟨A1, hA1⟩ : ∃ A, A = digs a.num.natAbs := ⟨_, rfl⟩
  obtain ⟨A2, hA2⟩ : ∃ A, A = digs a.den := ⟨_, rfl⟩
  obtain ⟨B1, hB1⟩ : ∃ A, A = digs b.num.natAbs := ⟨_, rfl⟩
  obtain ⟨B2, hB2⟩ : ∃ A, A = digs b.den := ⟨_, rfl⟩
  obtain ⟨s1, hs1⟩ : ∃ A, A = decide (a.num < 0) := ⟨_, rfl⟩
  obtain ⟨s2, hs2⟩ : ∃ A, A = decide (b.num < 0) := ⟨_, rfl⟩
  obtain ⟨X0, hX0⟩ : ∃ A, A = digs p0.natAbs := ⟨_, rfl⟩
  obtain ⟨X1, hX1⟩ : ∃ A, A = digs p1.natAbs := ⟨_, rfl⟩
  obtain ⟨u0, hu0⟩ : ∃ A, A = decide (p0 < 0) := ⟨_, rfl⟩
  obtain ⟨u1, hu1⟩ : ∃ A, A = decide (p1 < 0) := ⟨_, rfl⟩
  rw [← hA1, ← hA2, ← hs1, ← hB1, ← hB2, ← hs2] at c1 ⊢
  rw [← hA1, ← hA2, ← hs1, ← hB1, ← hB2, ← hs2, ← hX0, ← hX1, ← hu0, ← hu1] at c2
  rw [← hX0, ← hX1, ← hu0, ← hu1] at c3
  clear hA1 hA2 hB1 hB2 hs1 hs2 hX0 hX1 hu0 hu1 hp0 hp1 hc ha hb h1 h2
  refine H.ratio_Cmp.view hmix rfl rfl ?_
  have c2 : ∀ st, Rets P F.ratio_products [.list true [.bool s1, intLst t1 A1, .bool false, intLst t4 B2, .bool s2, intLst t3 B1, .bool false, intLst t2 A2] 4] st (.list false [.bool u0, intLst false X0, .bool u1, intLst false X1] 2) := c2
  have c1 : ∀ st, Rets P F.ratio_valid [.list true [.bool s1, intLst t1 A1, .bool false, intLst t2 A2, .bool s2, intLst t3 B1, .bool false, intLst t4 B2] 2] st (.tuple []) := c1
  repeat' (first 
   | (with_reducible refine Fresh.intro fun b hb => ?_) <;> (try simp -dsimp -implicitDefEqProofs [*] at hb)
   | (with_reducible refine Rets.xcall (c1 _) ?_)
   | (with_reducible refine Rets.xcall (c2 _) ?_)
   | (with_reducible refine Rets.xcall (c3 _) ?_)
   | (with_reducible refine Rets.xcall (did_int _ _) ?_)
   | (with_reducible refine Defs.xdef (rcaught_ret _ _) ?_)
   | (with_reducible refine Lit.imm ?_)
   | (with_reducible refine DrawLate.intro [] ?_)
   | (simp -dsimp -implicitDefEqProofs [H.ratio_caught.enters, *]))
  exact RetView.drop (st' := st) (by repeat' (first | exact StLe.refl _ | (refine StLe_cons (by simp [*]; done) ?_) | (refine StLe_fresh (by simp [*]; done) ?_))) ⟨rfl, rfl⟩
end Go.Proofs.Ytliglilanpfjhaa
/- Package ratio: numbers, products. -/
namespace Go.Proofs.Ytliglilanpfjhaa
open Go.Pv
set_option maxRecDepth 100000
set_option maxHeartbeats 4000000
theorem rat_mul_mk (a b : Rat) : a * b = mkRat (a.num * b.num) (a.den * b.den) := by
  rw [Rat.mul_def, Rat.normalize_eq_mkRat]
structure MulSmall (a b : Rat) : Prop where
  sa : Small a
  sb : Small b
  n : dl (a.num * b.num).natAbs ≤ 2048
  d : dl (a.den * b.den) ≤ 2048
end Go.Proofs.Ytliglilanpfjhaa
/- Package risk: chances. -/
namespace Go.Proofs.Ytliglilanpfjhaa
open Go.Pv
set_option maxRecDepth 100000
set_option maxHeartbeats 4000000
def wi (n most : Int) : Bool := decide (0 ≤ n) && decide (n ≤ most)
theorem pow_small {k N M : Nat} (h : k ≤ N) (e : 12 * N < 30 * M) : 4096 ^ k < 1073741824 ^ M := by
  have e1 : (4096 : Nat) ^ k ≤ 4096 ^ N := Nat.pow_le_pow_right (by decide) h
  have e2 : (4096 : Nat) ^ N < 1073741824 ^ M := by
    rw [show (4096 : Nat) = 2 ^ 12 by rfl, show (1073741824 : Nat) = 2 ^ 30 by rfl, ← Nat.pow_mul, ← Nat.pow_mul]
    exact Nat.pow_lt_pow_right (by decide) e
  exact Nat.lt_of_le_of_lt e1 e2
theorem small_miss {n w k : Nat} (hn : n ≤ 4096) (h : k ≤ n) : Small (missR n w k) := by
  obtain ⟨h1, h2⟩ := missR_small (w := w) hn h
  have key : ∀ m, m ≤ 4096 ^ k → dl m ≤ 2048 := fun m hm => dl_le.2 (Nat.lt_of_le_of_lt hm (pow_small (N := 4096) (M := 2048) (by omega) (by decide)))
  exact ⟨key _ h1, key _ h2⟩
theorem miss_mul {n w k : Nat} (hn : n ≤ 4096) (h : k < n) : MulSmall (missR n w k) (mkRat ((n - w - k : Nat) : Int) (n - k)) := by
  obtain ⟨h1, h2⟩ := missR_small (w := w) hn (show k ≤ n by omega)
  obtain ⟨h3, h4⟩ := mkRat_small ((n - w - k : Nat) : Int) (show n - k ≠ 0 by omega)
  have e0 : ((n - w - k : Nat) : Int).natAbs = n - w - k := rfl
  have key : ∀ m, m ≤ 4096 ^ k * 4096 → dl m ≤ 2048 := fun m hm => by
    rw [← Nat.pow_succ] at hm
    exact dl_le.2 (Nat.lt_of_le_of_lt hm (pow_small (N := 4096) (M := 2048) (by omega) (by decide)))
  have p0 : 0 < 4096 ^ k := Nat.pow_pos (by decide)
  refine ⟨small_miss hn (by omega), ⟨key _ ?_, key _ ?_⟩, key _ ?_, key _ ?_⟩
  · have := Nat.mul_le_mul p0 (show (mkRat ((n - w - k : Nat) : Int) (n - k)).num.natAbs ≤ 4096 by omega)
    omega
  · have := Nat.mul_le_mul p0 (show (mkRat ((n - w - k : Nat) : Int) (n - k)).den ≤ 4096 by omega)
    omega
  · rw [Int.natAbs_mul]
    exact Nat.mul_le_mul h1 (by omega)
  · exact Nat.mul_le_mul h2 (by omega)
end Go.Proofs.Ytliglilanpfjhaa
/- Package risk: the first of a sequence; Miss, Need. -/
namespace Go.Proofs.Ytliglilanpfjhaa
open Go.Pv
set_option maxRecDepth 100000
set_option maxHeartbeats 4000000
end Go.Proofs.Ytliglilanpfjhaa
/- Package risk: Need. -/
namespace Go.Proofs.Ytliglilanpfjhaa
open Go.Pv
set_option maxRecDepth 100000
set_option maxHeartbeats 4000000
/-- The number that digits stand for. -/
def ratV (s1 : Bool) (L1 L2 : List Int) : Rat := mkRat (if s1 then -dv L1 else dv L1) (dv L2).toNat
theorem IsRat.val {s1 s2 : Bool} {L1 L2 : List Int} {q : Rat} (h : IsRat s1 L1 s2 L2 q) : ratV s1 L1 L2 = q := by
  obtain ⟨rfl, rfl, -, rfl, -, -⟩ := h
  unfold ratV
  rw [dv_digs_nat, dv_digs]
  have e : (if decide (q.num < 0) = true then -((q.num.natAbs : Nat) : Int) else (q.num.natAbs : Nat)) = q.num := by
    simp only [decide_eq_true_eq]
    split <;> omega
  rw [e]
  exact Rat.mkRat_self q
def needE (n w : Int) (s1 : Bool) (L1 : List Int) (s2 : Bool) (L2 : List Int) : Int :=
  if (wi n 4096 && wi w n) = false then 1 else if ratOk s1 L1 s2 L2 = false then 100 else if 0 < ratV s1 L1 L2 ∧ ratV s1 L1 L2 ≤ 1 ∧ w ≠ 0 then 0 else 560
def needK (n w : Int) (s1 : Bool) (L1 : List Int) (s2 : Bool) (L2 : List Int) : Int :=
  if needE n w s1 L1 s2 L2 = 0 then needR n.toNat w.toNat (ratV s1 L1 L2) else 0
/-- Short, or too long. -/
def Few3 (L : List Int) : Prop := L.length ≤ 3 ∨ 2048 < L.length ∧ L.length ≤ 100000
theorem few_dl {q : Rat} (h1 : dl q.num.natAbs ≤ 3) (h2 : dl q.den ≤ 3) : Small q := ⟨by omega, by omega⟩
theorem dl_pow {k m : Nat} (hk : k ≤ 40) (h : m ≤ 4096 ^ k) : dl m ≤ 17 := by
  refine dl_le.2 ?_
  have e1 : 4096 ^ k ≤ 4096 ^ 40 := Nat.pow_le_pow_right (by decide) hk
  have e2 : (4096 : Nat) ^ 40 < 1073741824 ^ 17 := by decide
  omega
theorem dl_mul_nat (a : Int) (d : Nat) : dl (a * d).natAbs ≤ dl a.natAbs + dl d := by
  rw [Int.natAbs_mul]
  exact dl_mul _ _
end Go.Proofs.Ytliglilanpfjhaa
