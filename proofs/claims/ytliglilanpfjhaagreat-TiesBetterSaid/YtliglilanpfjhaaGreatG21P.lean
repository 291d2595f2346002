/- Package ratio: comparing, lowest terms. -/
import Derived.Test.YtliglilanpfjhaaGreatG21N
import Derived.Test.YtliglilanpfjhaaGreatLRt
import Derived.Test.YtliglilanpfjhaaGreatLRg
namespace Go.Proofs.YtliglilanpfjhaaGreat
open Go.Pv
set_option maxRecDepth 100000
set_option maxHeartbeats 4000000
theorem zC_nat (t : Bool) (n : Nat) : zC t (n : Int) = [.bool false, intLst t (digs n)] := by
  have h : ¬ (n : Int) < 0 := by omega
  unfold zC
  rw [decide_eq_false h]; rfl
theorem ratCmp_spec (t1 t2 t3 t4 : Bool) (a b : Rat) (ha : Small a) (hb : Small b) (h1 : dl (a.num * b.den).natAbs ≤ 2048) (h2 : dl (b.num * a.den).natAbs ≤ 2048) (st : Store) : Rets P F.ratio_Cmp [.agg (rC t1 t2 a), .agg (rC t3 t4 b)] st (.tuple [.int (cmpR a b), .int 0]) := by
  have c1 := valid_ok t1 t2 t3 t4 a b ha hb
  have c2 := products_spec t1 t4 t3 t2 a.num b.den b.num a.den ha.n hb.d hb.n ha.d h1 h2
  have c3 := natCmp_spec false false (a.num * b.den) (b.num * a.den) h1 h2
  rw [← cmpR_eq] at c3
  obtain ⟨p0, hp0⟩ : ∃ p, p = a.num * (b.den : Int) := ⟨_, rfl⟩
  obtain ⟨p1, hp1⟩ : ∃ p, p = b.num * (a.den : Int) := ⟨_, rfl⟩
  rw [← hp0, ← hp1] at c2 c3
  rw [zC_nat, zC_nat] at c2
  rw [rC_cells, rC_cells] at c1 ⊢
  unfold zC at c2 c3
  obtain ⟨c, hc⟩ : ∃ c, c = cmpR a b := ⟨_, rfl⟩
  rw [← hc] at c3 ⊢
  obtain ⟨A1, hA1⟩ : ∃ A, A = digs a.num.natAbs := ⟨_, rfl⟩
  obtain ⟨A2, hA2⟩ : ∃ A, A = digs a.den := ⟨_, rfl⟩
  obtain ⟨B1, hB1⟩ : ∃ A, A = digs b.num.natAbs := ⟨_, rfl⟩
  obtain ⟨B2, hB2⟩ : ∃ A, A = digs b.den := ⟨_, rfl⟩
  obtain ⟨s1, hs1⟩ : ∃ A, A = decide (a.num < 0) := ⟨_, rfl⟩
  obtain ⟨s2, hs2⟩ : ∃ A, A = decide (b.num < 0) := ⟨_, rfl⟩
  obtain ⟨X0, hX0⟩ : ∃ A, A = digs p0.natAbs := ⟨_, rfl⟩
  obtain ⟨X1, hX1⟩ : ∃ A, A = digs p1.natAbs := ⟨_, rfl⟩
  obtain ⟨u0, hu0⟩ : ∃ A, A = decide (p0 < 0) := ⟨_, rfl⟩
  obtain ⟨u1, hu1⟩ : ∃ A, A = decide (p1 < 0) := ⟨_, rfl⟩
  rw [← hA1, ← hA2, ← hs1, ← hB1, ← hB2, ← hs2] at c1 ⊢
  rw [← hA1, ← hA2, ← hs1, ← hB1, ← hB2, ← hs2, ← hX0, ← hX1, ← hu0, ← hu1] at c2
  rw [← hX0, ← hX1, ← hu0, ← hu1] at c3
  clear hA1 hA2 hB1 hB2 hs1 hs2 hX0 hX1 hu0 hu1 hp0 hp1 hc ha hb h1 h2
  refine H.ratio_Cmp.view hmix rfl rfl ?_
  have c2 : ∀ st, Rets P F.ratio_products [.list true [.bool s1, intLst t1 A1, .bool false, intLst t4 B2, .bool s2, intLst t3 B1, .bool false, intLst t2 A2] 4] st (.list false [.bool u0, intLst false X0, .bool u1, intLst false X1] 2) := c2
  have c1 : ∀ st, Rets P F.ratio_valid [.list true [.bool s1, intLst t1 A1, .bool false, intLst t2 A2, .bool s2, intLst t3 B1, .bool false, intLst t4 B2] 2] st (.tuple []) := c1
  repeat' (first 
   | (with_reducible refine Fresh.intro fun b hb => ?_) <;> (try simp -dsimp -implicitDefEqProofs [*] at hb)
   | (with_reducible refine Rets.xcall (c1 _) ?_)
   | (with_reducible refine Rets.xcall (c2 _) ?_)
   | (with_reducible refine Rets.xcall (c3 _) ?_)
   | (with_reducible refine Rets.xcall (did_int _ _) ?_)
   | (with_reducible refine Defs.xdef (rcaught_ret _ _) ?_)
   | (with_reducible refine Lit.imm ?_)
   | (with_reducible refine DrawLate.intro [] ?_)
   | (simp -dsimp -implicitDefEqProofs [H.ratio_caught.enters, *]))
  exact RetView.drop (st' := st) (by repeat' (first | exact StLe.refl _ | (refine StLe_cons (by simp [*]; done) ?_) | (refine StLe_fresh (by simp [*]; done) ?_))) ⟨rfl, rfl⟩
/-- Lowest terms of two whole numbers. -/
theorem lowest_nat (w : Int) (d : Nat) (g : Nat) (hd : d ≠ 0) (hg : g ≠ 0) (h : w.natAbs.gcd d = 1) (t u : Bool) (h1 : dl (w * g).natAbs ≤ 2048) (h2 : dl (d * g) ≤ 2048) (st : Store) :
    Rets P F.ratio_pair_lowest [.agg (zC t (w * g) ++ zC u ((d * g : Nat) : Int))] st (.agg (zC false w ++ zC false (d : Int))) := by
  have e1 : (w * g).natAbs = w.natAbs * g := by rw [Int.natAbs_mul]; rfl
  have eg : Nat.gcd (w * g).natAbs ((d * g : Nat) : Int).natAbs = g := by
    rw [e1]
    show Nat.gcd (w.natAbs * g) (d * g) = g
    rw [Nat.gcd_mul_right, h, Nat.one_mul]
  have c1 := natGcd_spec t u (w * g) ((d * g : Nat) : Int) h1 h2
  rw [eg] at c1
  have hgl : dl g ≤ 2048 := Nat.le_trans (dl_mono (Nat.le_mul_of_pos_left g (by omega))) h2
  have c2 := natDiv_spec t false w g hg h1 hgl
  have e3 : ((d : Int) * g).natAbs = d * g := by rw [Int.natAbs_mul]; rfl
  have c3 := natDiv_spec u false (d : Int) g hg (by rw [e3]; exact h2) hgl
  have e2 : ((d : Int) * g) = ((d * g : Nat) : Int) := by push_cast; rfl
  rw [e2] at c3
  rw [zC_nat] at c1 c3 ⊢
  rw [zC_nat] at c1 c3 ⊢
  unfold zC at c1 c2 ⊢
  obtain ⟨A, hA⟩ : ∃ A, A = digs (w * g).natAbs := ⟨_, rfl⟩
  obtain ⟨s, hs⟩ : ∃ A, A = decide (w * g < 0) := ⟨_, rfl⟩
  obtain ⟨B, hB⟩ : ∃ A, A = digs (d * g) := ⟨_, rfl⟩
  obtain ⟨G, hG⟩ : ∃ A, A = digs g := ⟨_, rfl⟩
  obtain ⟨W, hW⟩ : ∃ A, A = digs w.natAbs := ⟨_, rfl⟩
  obtain ⟨sw, hsw⟩ : ∃ A, A = decide (w < 0) := ⟨_, rfl⟩
  obtain ⟨D, hD⟩ : ∃ A, A = digs d := ⟨_, rfl⟩
  rw [← hA, ← hs, ← hB, ← hG] at c1
  rw [← hA, ← hs, ← hG, ← hW, ← hsw] at c2
  rw [← hB, ← hG, ← hD] at c3
  rw [← hA, ← hs, ← hB, ← hW, ← hsw, ← hD]
  clear hA hs hB hG hW hsw hD e2 e3 eg e1 hgl h1 h2 h hd hg
  refine H.ratio_pair_lowest.view hmix rfl rfl ?_
  repeat' (first 
   | (with_reducible refine Fresh.intro fun b hb => ?_) <;> (try simp -dsimp -implicitDefEqProofs [*] at hb)
   | (with_reducible refine Rets.xcall (c1 _) ?_)
   | (with_reducible refine Rets.xcall (c2 _) ?_)
   | (with_reducible refine Rets.xcall (c3 _) ?_)
   | (with_reducible refine Rets.xcall (did_big _ _ _ _) ?_)
   | (simp -dsimp -implicitDefEqProofs [*]))
  exact RetView.drop (st' := st) (by repeat' (first | exact StLe.refl _ | (refine StLe_cons (by simp [*]; done) ?_) | (refine StLe_fresh (by simp [*]; done) ?_))) ⟨rfl, rfl⟩
theorem ratOf_spec (w : Int) (d : Nat) (g : Nat) (hd : d ≠ 0) (hg : g ≠ 0) (h : w.natAbs.gcd d = 1) (t u : Bool) (h1 : dl (w * g).natAbs ≤ 2048) (h2 : dl (d * g) ≤ 2048) (st : Store) :
    Rets P F.ratio_Of [.agg (zC t (w * g)), .agg (zC u ((d * g : Nat) : Int))] st (.tuple [.agg (zC false w ++ zC false (d : Int)), .int 0]) := by
  have c0 := lowest_nat w d g hd hg h t u h1 h2
  have c1 := natCheck_spec (decide (w * g < 0)) t (digs (w * g).natAbs) (by unfold dl at h1; omega)
  have c2 := natCheck_spec false u (digs (d * g)) (by unfold dl at h2; omega)
  rw [zOk _ h1] at c1
  rw [bigOk_digs h2 (fun _ => rfl)] at c2
  unfold bigP errB at c1 c2
  simp only [if_true] at c1 c2
  have hdg : d * g ≠ 0 := Nat.mul_ne_zero hd hg
  have l0 : 0 < (digs (d * g)).length := dl_pos hdg
  rw [zC_nat] at c0 ⊢
  rw [zC_nat] at c0 ⊢
  unfold zC at c0 ⊢
  obtain ⟨A, hA⟩ : ∃ A, A = digs (w * g).natAbs := ⟨_, rfl⟩
  obtain ⟨s, hs⟩ : ∃ A, A = decide (w * g < 0) := ⟨_, rfl⟩
  obtain ⟨B, hB⟩ : ∃ A, A = digs (d * g) := ⟨_, rfl⟩
  obtain ⟨W, hW⟩ : ∃ A, A = digs w.natAbs := ⟨_, rfl⟩
  obtain ⟨sw, hsw⟩ : ∃ A, A = decide (w < 0) := ⟨_, rfl⟩
  obtain ⟨D, hD⟩ : ∃ A, A = digs d := ⟨_, rfl⟩
  rw [← hA, ← hs] at c1
  rw [← hB] at c2 l0
  rw [← hA, ← hs, ← hB, ← hW, ← hsw, ← hD] at c0 ⊢
  clear hA hs hB hW hsw hD h1 h2 h hd hg hdg
  have c0 : ∀ st, Rets P F.ratio_pair_lowest [.agg [.bool s, intLst t A, .bool false, intLst u B]] st (.agg [.bool sw, intLst false W, .bool false, intLst false D]) := c0
  refine H.ratio_Of.view hmix rfl rfl ?_
  repeat' (first 
   | (with_reducible refine Fresh.intro fun b hb => ?_) <;> (try simp -dsimp -implicitDefEqProofs [*] at hb)
   | (with_reducible refine Rets.xcall (c1 _) ?_)
   | (with_reducible refine Rets.xcall (c2 _) ?_)
   | (with_reducible refine Rets.xcall (c0 _) ?_)
   | (with_reducible refine Rets.xcall (rneed_ok _ _) ?_)
   | (with_reducible refine Defs.xdef (rcaught_ret _ _) ?_)
   | (simp -dsimp -implicitDefEqProofs [H.ratio_caught.enters, *]))
  exact RetView.drop (st' := st) (by repeat' (first | exact StLe.refl _ | (refine StLe_cons (by simp [*]; done) ?_) | (refine StLe_fresh (by simp [*]; done) ?_))) ⟨rfl, rfl⟩
end Go.Proofs.YtliglilanpfjhaaGreat
/- Package ratio: numbers, products. -/
namespace Go.Proofs.YtliglilanpfjhaaGreat
open Go.Pv
set_option maxRecDepth 100000
set_option maxHeartbeats 4000000
theorem ratMake_spec (n : Int) (d : Nat) (hd : d ≠ 0) (h1 : -1152921504606846976 ≤ n) (h2 : n ≤ 1152921504606846976) (h3 : d ≤ 1152921504606846976) (st : Store) : Rets P F.ratio_Make [.int n, .int d] st (.tuple [.agg (rC false false (mkRat n d)), .int 0]) := by
  obtain ⟨g, hg, e1, e2⟩ := mkRat_parts n hd
  have hn : dl n.natAbs ≤ 3 := dl_le.2 (by omega)
  have hdd : dl d ≤ 3 := dl_le.2 (by omega)
  have c0 := ratOf_spec (mkRat n d).num (mkRat n d).den g (mkRat n d).den_nz hg (mkRat n d).reduced false false (by rw [← e1]; omega) (by rw [← e2]; omega)
  rw [← e1, ← e2] at c0
  have c1 := natMake_spec n (by omega) (by omega)
  have c2 := natMake_spec (d : Int) (by omega) (by omega)
  have c0 : ∀ st, Rets P F.ratio_Of [.agg (zC false n), .agg (zC false (d : Int))] st (.tuple [.agg (rC false false (mkRat n d)), .int 0]) := c0
  clear e1 e2 hn hdd
  obtain ⟨Q, hQ⟩ : ∃ Q, Q = rC false false (mkRat n d) := ⟨_, rfl⟩
  have lQ : Q.length = 4 := by rw [hQ]; rfl
  rw [← hQ] at c0 ⊢
  obtain ⟨X, hX⟩ : ∃ X, X = zC false n := ⟨_, rfl⟩
  obtain ⟨Y, hY⟩ : ∃ X, X = zC false (d : Int) := ⟨_, rfl⟩
  rw [← hX] at c0 c1
  rw [← hY] at c0 c2
  clear hQ hX hY
  have f1 : setCells [PV.bool false, PV.nil, PV.bool false, PV.nil] 0 Q = Q := setCells_all Q _ (by simp [lQ])
  have f2 : sub Q 0 4 = some Q := by rw [sub_eq]; simp [lQ]; exact List.take_of_length_le (by omega)
  refine H.ratio_Make.view hmix rfl rfl ?_
  repeat' (first 
   | (with_reducible refine Fresh.intro fun b hb => ?_) <;> (try simp -dsimp -implicitDefEqProofs [*] at hb)
   | (with_reducible refine Rets.xcall (c1 _) ?_)
   | (with_reducible refine Rets.xcall (c2 _) ?_)
   | (with_reducible refine Rets.xcall (c0 _) ?_)
   | (simp -dsimp -implicitDefEqProofs [*]))
  exact RetView.drop (st' := st) (by repeat' (first | exact StLe.refl _ | (refine StLe_cons (by simp [*]; done) ?_) | (refine StLe_fresh (by simp [*]; done) ?_))) ⟨rfl, rfl⟩
end Go.Proofs.YtliglilanpfjhaaGreat
/- Package risk: chances. -/
namespace Go.Proofs.YtliglilanpfjhaaGreat
open Go.Pv
set_option maxRecDepth 100000
set_option maxHeartbeats 4000000
end Go.Proofs.YtliglilanpfjhaaGreat
/- Package risk: the first of a sequence; Miss, Need. -/
namespace Go.Proofs.YtliglilanpfjhaaGreat
open Go.Pv
set_option maxRecDepth 100000
set_option maxHeartbeats 4000000
end Go.Proofs.YtliglilanpfjhaaGreat
/- Package risk: Need. -/
namespace Go.Proofs.YtliglilanpfjhaaGreat
open Go.Pv
set_option maxRecDepth 100000
set_option maxHeartbeats 4000000
/-- The number that digits stand for. -/
def ratV (s1 : Bool) (L1 L2 : List Int) : Rat := mkRat (if s1 then -dv L1 else dv L1) (dv L2).toNat
theorem IsRat.val {s1 s2 : Bool} {L1 L2 : List Int} {q : Rat} (h : IsRat s1 L1 s2 L2 q) : ratV s1 L1 L2 = q := by
  obtain ⟨rfl, rfl, -, rfl, -, -⟩ := h
  unfold ratV
  rw [dv_digs_nat, dv_digs]
  have e : (if decide (q.num < 0) = true then -((q.num.natAbs : Nat) : Int) else (q.num.natAbs : Nat)) = q.num := by
    simp only [decide_eq_true_eq]
    split <;> omega
  rw [e]
  exact Rat.mkRat_self q
end Go.Proofs.YtliglilanpfjhaaGreat
