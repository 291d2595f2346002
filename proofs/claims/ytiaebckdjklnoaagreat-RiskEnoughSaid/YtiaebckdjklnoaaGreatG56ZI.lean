/- The reference's risks. -/
import Derived.Test.YtiaebckdjklnoaaGreatG56ZH
import Derived.Test.YtiaebckdjklnoaaGreatG56T
namespace Go.Proofs.YtiaebckdjklnoaaGreat
open Go.Pv
set_option maxRecDepth 100000
set_option maxHeartbeats 16000000
theorem rSheets_spec (n w : Int) (st : Store) : Rets P F.podiumref56_sheets [.int n, .int w] st (.bool (wi n 4096 && wi w n)) := by
  refine H.podiumref56_sheets.pure hmix rfl rfl ?_
  unfold wi
  by_cases h1 : 0 ≤ n <;> by_cases h2 : n ≤ 4096 <;> by_cases h3 : 0 ≤ w <;> by_cases h4 : w ≤ n
  all_goals
    repeat' (simp -dsimp -implicitDefEqProofs [*])
theorem rMore_spec (t1 t2 t3 t4 : Bool) (a b : Rat) (ha : Small a) (hb : Small b) (h1 : dl (a.num * b.den).natAbs ≤ 2048) (h2 : dl (b.num * a.den).natAbs ≤ 2048) (st : Store) : Rets P F.podiumref56_more [.agg (rC t1 t2 a), .agg (rC t3 t4 b)] st (.bool (decide (b < a))) := by
  have c1 := rCmp10_spec t1 t2 t3 t4 a b ha hb h1 h2
  have e : decide (b < a) = decide (0 < cmpR a b) := decide_eq_decide.2 (by
    have := cmpR_le (a := a) (b := b)
    rw [← Rat.not_le, ← this]; omega)
  rw [e]
  obtain ⟨A, hA⟩ : ∃ X, X = rC t1 t2 a := ⟨_, rfl⟩
  obtain ⟨B, hB⟩ : ∃ X, X = rC t3 t4 b := ⟨_, rfl⟩
  obtain ⟨c, hc⟩ : ∃ X, X = cmpR a b := ⟨_, rfl⟩
  have lA : A.length = 4 := by rw [hA]; rfl
  have lB : B.length = 4 := by rw [hB]; rfl
  rw [← hA, ← hB, ← hc] at c1
  rw [← hA, ← hB, ← hc]
  have fA := cells_sub lA
  have fB := cells_sub lB
  clear hA hB hc ha hb h1 h2 e
  refine H.podiumref56_more.pure hmix rfl rfl ?_
  repeat' (first 
   | (with_reducible refine Fresh.intro fun b hb => ?_) <;> (try simp -dsimp -implicitDefEqProofs [*] at hb)
   | (with_reducible refine Rets.xcall (c1 _) ?_)
   | (simp -dsimp -implicitDefEqProofs [*]))
theorem small_mk1 (n : Int) (h : n.natAbs < 1073741824) : Small (mkRat n 1) ∧ (mkRat n 1).num = n ∧ (mkRat n 1).den = 1 := by
  have e : mkRat n 1 = (n : Rat) := by rw [Rat.mkRat_one]
  rw [e]
  refine ⟨⟨?_, ?_⟩, rfl, rfl⟩
  · exact Nat.le_trans (dl_one h) (by decide)
  · show dl 1 ≤ 2048
    exact Nat.le_trans (dl_one (by decide)) (by decide)
theorem rLimit_spec (t1 t2 : Bool) (q : Rat) (h1 : dl q.num.natAbs ≤ 1000) (h2 : dl q.den ≤ 1000) (st : Store) : Rets P F.podiumref56_Limit [.agg (rC t1 t2 q)] st (.bool (decide (0 < q ∧ q ≤ 1))) := by
  obtain ⟨s0, n0, d0⟩ := small_mk1 0 (by decide)
  obtain ⟨s1, n1, d1⟩ := small_mk1 1 (by decide)
  have sq : Small q := ⟨by omega, by omega⟩
  have o1 : dl 1 ≤ 1 := dl_one (by decide)
  have c0 := rMore_spec t1 t2 false false q (mkRat 0 1) sq s0 (Nat.le_trans (dl_mul_nat _ _) (by rw [d0]; omega)) (Nat.le_trans (dl_mul_nat _ _) (by rw [n0]; have : dl (0 : Int).natAbs ≤ 1 := dl_one (by decide); omega))
  have c1 := rMore_spec t1 t2 false false q (mkRat 1 1) sq s1 (Nat.le_trans (dl_mul_nat _ _) (by rw [d1]; omega)) (Nat.le_trans (dl_mul_nat _ _) (by rw [n1]; have : dl (1 : Int).natAbs ≤ 1 := dl_one (by decide); omega))
  have i0 := rInt_rat 0 (by decide) (by decide)
  have i1 := rInt_rat 1 (by decide) (by decide)
  have e0 : decide (mkRat 0 1 < q) = decide (0 < q) := rfl
  have e1 : decide (mkRat 1 1 < q) = !decide (q ≤ 1) := by
    rw [← decide_not]
    refine decide_eq_decide.2 ?_
    rw [Rat.not_le]; exact Iff.rfl
  rw [e0] at c0
  rw [e1] at c1
  obtain ⟨A, hA⟩ : ∃ X, X = rC t1 t2 q := ⟨_, rfl⟩
  obtain ⟨Z0, hZ0⟩ : ∃ X, X = rC false false (mkRat 0 1) := ⟨_, rfl⟩
  obtain ⟨Z1, hZ1⟩ : ∃ X, X = rC false false (mkRat 1 1) := ⟨_, rfl⟩
  have lA : A.length = 4 := by rw [hA]; rfl
  rw [← hA, ← hZ0] at c0
  rw [← hA, ← hZ1] at c1
  rw [← hZ0] at i0
  rw [← hZ1] at i1
  rw [← hA]
  have fA := cells_sub lA
  clear hA hZ0 hZ1 s0 s1 n0 n1 d0 d1 sq e0 e1 o1 h1 h2
  refine H.podiumref56_Limit.pure hmix rfl rfl ?_
  by_cases q0 : 0 < q
  · by_cases q1 : q ≤ 1
    · rw [decide_eq_true q0] at c0
      rw [decide_eq_true q1] at c1
      rw [decide_eq_true ⟨q0, q1⟩]
      clear q0 q1
      repeat' (first 
       | (with_reducible refine Fresh.intro fun b hb => ?_) <;> (try simp -dsimp -implicitDefEqProofs [*] at hb)
       | (with_reducible refine Rets.xcall (c0 _) ?_)
       | (with_reducible refine Rets.xcall (c1 _) ?_)
       | (with_reducible refine Rets.xcall (i0 _) ?_)
       | (with_reducible refine Rets.xcall (i1 _) ?_)
       | (with_reducible refine DrawLate.intro [] ?_)
       | (simp -dsimp -implicitDefEqProofs [*]))
    · rw [decide_eq_true q0] at c0
      rw [decide_eq_false q1] at c1
      rw [decide_eq_false (fun h => q1 h.2)]
      clear q0 q1
      repeat' (first 
       | (with_reducible refine Fresh.intro fun b hb => ?_) <;> (try simp -dsimp -implicitDefEqProofs [*] at hb)
       | (with_reducible refine Rets.xcall (c0 _) ?_)
       | (with_reducible refine Rets.xcall (c1 _) ?_)
       | (with_reducible refine Rets.xcall (i0 _) ?_)
       | (with_reducible refine Rets.xcall (i1 _) ?_)
       | (with_reducible refine DrawLate.intro [] ?_)
       | (simp -dsimp -implicitDefEqProofs [*]))
  · rw [decide_eq_false q0] at c0
    rw [decide_eq_false (fun h => q0 h.1)]
    clear q0 c1
    repeat' (first 
     | (with_reducible refine Fresh.intro fun b hb => ?_) <;> (try simp -dsimp -implicitDefEqProofs [*] at hb)
     | (with_reducible refine Rets.xcall (c0 _) ?_)
     | (with_reducible refine Rets.xcall (i0 _) ?_)
     | (with_reducible refine DrawLate.intro [] ?_)
     | (simp -dsimp -implicitDefEqProofs [*]))
/-- The chance to miss. -/
theorem rMiss_spec (n w k : Nat) (hn : n ≤ 4096) (hw : w ≤ n) (hk : k ≤ n) (st : Store) : Rets P F.podiumref56_miss [.int n, .int w, .int k] st (.agg (rC false false (missR n w k))) := by
  have c0 := rInt_rat 0 (by decide) (by decide)
  have c1 := rInt_rat 1 (by decide) (by decide)
  have e1 : mkRat 1 1 = missR n w 0 := rfl
  rw [e1] at c1
  have H : ∃ V : Nat → List PV, ∀ i, V i = rC false false (missR n w i) := ⟨fun i => rC false false (missR n w i), fun _ => rfl⟩
  obtain ⟨V, hV⟩ := H
  have lV : ∀ i, (V i).length = 4 := fun i => by rw [hV]; rfl
  rw [← hV] at c1 ⊢
  obtain ⟨Z, hZ⟩ : ∃ X, X = rC false false (mkRat 0 1) := ⟨_, rfl⟩
  rw [← hZ] at c0
  have lZ : Z.length = 4 := by rw [hZ]; rfl
  have aZ : setCells [.bool false, .nil, .bool false, .nil] 0 Z = Z := setCells_all Z _ lZ
  have f1 := cells_all (c := [PV.bool false, PV.nil, PV.bool false, PV.nil]) (V := V 0) (by simp [lV])
  have kV : Hid (∀ i, V i = rC false false (missR n w i)) := ⟨hV⟩
  have kZ : Hid (Z = rC false false 0) := ⟨hZ⟩
  have fZ := cells_sub lZ
  clear hV hZ e1
  refine H.podiumref56_miss.view hmix rfl rfl ?_
  repeat' (first 
   | (with_reducible refine Fresh.intro fun b hb => ?_) <;> (try simp -dsimp -implicitDefEqProofs [*] at hb)
   | (with_reducible refine Rets.xcall (c1 _) ?_)
   | (simp -dsimp -implicitDefEqProofs [*]))
  revert b
  revert b
  intro p6 hp6 p7 hp7
  clear c1 f1
  refine xloop_for (fun y : Nat => [(8, .int y), (7, .ptr p7 0), (6, .ptr p6 0), (0, .int n), (1, .int w), (2, .int k)]) (fun y => (p7, .arr T.apiRatio (V y)) :: (p6, .arr T.apiRatio [.bool false, .nil, .bool false, .nil]) :: st) (fun y => y ≤ k) (fun y => k - y) 0 (Nat.zero_le _) (by simp) (by simp) ?_
  intro i hi
  have fi := cells_sub (lV i)
  by_cases hik : i < k
  · have x1 : IntKind.i64.wrap ((n : Int) - w) = (n : Int) - w := wrap_in (by omega) (by omega)
    have x2 : IntKind.i64.wrap ((n : Int) - w - i) = (n : Int) - w - i := wrap_in (by omega) (by omega)
    have x5 := wrap_succ (n := i) (by omega)
    by_cases hz : (n : Int) - w - i ≤ 0
    · have eR : Z = V k := by rw [kZ.out, kV.out, missR_end (by omega) hk]
      have fk := cells_sub (lV k)
      repeat' (first 
       | (with_reducible refine Rets.xcall (c0 _) ?_)
       | (simp -dsimp -implicitDefEqProofs [*]))
      exact RetView.drop (st' := st) (by repeat' (first | exact StLe.refl _ | (refine StLe_cons (by simp [*]; done) ?_) | (refine StLe_fresh (by simp [*]; done) ?_))) ⟨rfl, rfl⟩
    · obtain ⟨u, hu⟩ : ∃ u, u = n - w - i := ⟨_, rfl⟩
      obtain ⟨e, he⟩ : ∃ e, e = n - i := ⟨_, rfl⟩
      have y1 : (n : Int) - w - i = (u : Int) := by omega
      have y2 : (n : Int) - i = (e : Int) := by omega
      have x4 : IntKind.i64.wrap ((n : Int) - i) = (n : Int) - i := wrap_in (by omega) (by omega)
      have c1 := rMake10_spec (u : Int) e (by omega) (by omega) (by omega) (by omega)
      have c2 := rMul10_spec false false false false _ _ (miss_mul (w := w) hn (show i < n by omega))
      have e3 : missR n w i * mkRat ((n - w - i : Nat) : Int) (n - i) = missR n w (i + 1) := rfl
      rw [e3, ← kV.out, ← kV.out, ← hu, ← he] at c2
      rw [y1] at x2 hz
      rw [y2] at x4
      obtain ⟨M, hM⟩ : ∃ M, M = rC false false (mkRat (u : Int) e) := ⟨_, rfl⟩
      rw [← hM] at c1 c2
      have lM : M.length = 4 := by rw [hM]; rfl
      have fM := cells_sub lM
      have aM : setCells [.bool false, .nil, .bool false, .nil] 0 M = M := setCells_all M _ lM
      have aV : setCells (V i) 0 (V (i + 1)) = V (i + 1) := setCells_all _ _ (by rw [lV, lV])
      clear hM hu he c0 aZ kZ kV fZ
      repeat' (first 
       | (with_reducible refine Fresh.intro fun b hb => ?_) <;> (try simp -dsimp -implicitDefEqProofs [*] at hb)
       | (with_reducible refine Rets.xcall (c1 _) ?_)
       | (with_reducible refine Rets.xcall (c2 _) ?_)
       | (with_reducible refine And.intro (fun h => ?_) (fun h => ?_)) <;> (try (exfalso; omega))
       | (simp -dsimp -implicitDefEqProofs [*]))
      exact Next.intro (i + 1) hik (by omega) (by simp) (by repeat' (first | exact StLe.refl _ | (refine StLe_cons (by simp [*]; done) ?_) | (refine StLe_fresh (by simp [*]; done) ?_)))
  · have e : i = k := by omega
    subst e
    have aV : setCells [.bool false, .nil, .bool false, .nil] 0 (V i) = V i := setCells_all _ _ (by rw [lV]; rfl)
    clear c0 aZ kZ kV fZ
    repeat' (simp -dsimp -implicitDefEqProofs [*])
    exact RetView.drop (st' := st) (by repeat' (first | exact StLe.refl _ | (refine StLe_cons (by simp [*]; done) ?_) | (refine StLe_fresh (by simp [*]; done) ?_))) ⟨rfl, rfl⟩
/-- How many sheets are needed. -/
theorem rNeed_spec (n w : Int) (hn : n ≤ 40 ∨ 4096 < n) (s1 t1 s2 t2 : Bool) (L1 L2 : List Int) (hl1 : Few3 L1) (hl2 : Few3 L2) (st : Store) :
    Rets P F.podiumref56_Need [.int n, .int w, .agg [.bool s1, intLst t1 L1, .bool s2, intLst t2 L2]] st (.tuple [.int (needK n w s1 L1 s2 L2), .int (needE n w s1 L1 s2 L2)]) := by
  have c1 := rSheets_spec n w
  have c3 := rCheck10_spec s1 t1 s2 t2 L1 L2 (by unfold Few3 at hl1; omega) (by unfold Few3 at hl2; omega)
  have fin : ∀ e : Int, needE n w s1 L1 s2 L2 = e → e ≠ 0 → Rets P F.podiumref56_Need [.int n, .int w, .agg [.bool s1, intLst t1 L1, .bool s2, intLst t2 L2]] st (.tuple [.int 0, .int e]) → Rets P F.podiumref56_Need [.int n, .int w, .agg [.bool s1, intLst t1 L1, .bool s2, intLst t2 L2]] st (.tuple [.int (needK n w s1 L1 s2 L2), .int (needE n w s1 L1 s2 L2)]) := by
    intro e h1 h2 h3
    unfold needK
    rw [h1, if_neg h2]
    exact h3
  cases h1 : (wi n 4096 && wi w n) with
  | false =>
    rw [h1] at c1
    refine fin 1 (by simp only [needE, h1, if_true]) (by decide) ?_
    clear h1 c3 fin
    refine H.podiumref56_Need.view hmix rfl rfl ?_
    repeat' (first 
     | (with_reducible refine Fresh.intro fun b hb => ?_) <;> (try simp -dsimp -implicitDefEqProofs [*] at hb)
     | (with_reducible refine Rets.xcall (c1 _) ?_)
     | (simp -dsimp -implicitDefEqProofs [*]))
    exact RetView.drop (st' := st) (by repeat' (first | exact StLe.refl _ | (refine StLe_cons (by simp [*]; done) ?_) | (refine StLe_fresh (by simp [*]; done) ?_))) ⟨rfl, rfl⟩
  | true =>
    rw [h1] at c1
    cases h3 : ratOk s1 L1 s2 L2 with
    | false =>
      rw [h3] at c3
      refine fin 100 (by simp [needE, h1, h3]) (by decide) ?_
      have c3' : ∀ st, Rets P F.podiumref10_Check [.agg [.bool s1, intLst t1 L1, .bool s2, intLst t2 L2]] st (.int 100) := c3
      clear h1 h3 fin c3
      refine H.podiumref56_Need.view hmix rfl rfl ?_
      repeat' (first 
       | (with_reducible refine Fresh.intro fun b hb => ?_) <;> (try simp -dsimp -implicitDefEqProofs [*] at hb)
       | (with_reducible refine Rets.xcall (c1 _) ?_)
       | (with_reducible refine Rets.xcall (c3' _) ?_)
       | (simp -dsimp -implicitDefEqProofs [*]))
      exact RetView.drop (st' := st) (by repeat' (first | exact StLe.refl _ | (refine StLe_cons (by simp [*]; done) ?_) | (refine StLe_fresh (by simp [*]; done) ?_))) ⟨rfl, rfl⟩
    | true =>
      rw [h3] at c3
      have c3' : ∀ st, Rets P F.podiumref10_Check [.agg [.bool s1, intLst t1 L1, .bool s2, intLst t2 L2]] st (.int 0) := c3
      obtain ⟨q, hq⟩ := ratOk_iff.1 h3
      obtain ⟨N, rfl⟩ : ∃ N : Nat, n = N := ⟨n.toNat, by simp [wi] at h1; omega⟩
      obtain ⟨W, rfl⟩ : ∃ W : Nat, w = W := ⟨w.toNat, by simp [wi] at h1; omega⟩
      have hN : N ≤ 40 := by simp [wi] at h1; omega
      have hW : W ≤ N := by simp [wi] at h1; omega
      have eV := IsRat.val hq
      have d1 : dl q.num.natAbs ≤ 4 := by have := hq.n; have e := congrArg List.length hq.L1; unfold Few3 at hl1; unfold dl at *; omega
      have d2 : dl q.den ≤ 4 := by have := hq.d; have e := congrArg List.length hq.L2; unfold Few3 at hl2; unfold dl at *; omega
      have lL1 : L1.length ≤ 4 := by have e := congrArg List.length hq.L1; unfold dl at d1; omega
      have lL2 : L2.length ≤ 4 := by have e := congrArg List.length hq.L2; unfold dl at d2; omega
      have eE : needE N W s1 L1 s2 L2 = if 0 < q ∧ q ≤ 1 ∧ (W : Int) ≠ 0 then 0 else 560 := by
        unfold needE
        rw [h1, h3, eV]
        simp
      have ec := hq.cells t1 t2
      have cl := rLimit_spec t1 t2 q (by omega) (by omega)
      rw [← ec] at cl
      clear h1 h3 c3
      have n1 : ¬ (1024 : Int) < L1.length := by omega
      have n2 : ¬ (1024 : Int) < L2.length := by omega
      by_cases hc : 0 < q ∧ q ≤ 1
      · rw [decide_eq_true hc] at cl
        by_cases w0 : W = 0
        · refine fin 560 (by rw [eE, if_neg (by simp [w0])]) (by decide) ?_
          subst w0
          have c1' : ∀ st, Rets P F.podiumref56_sheets [.int N, .int 0] st (.bool true) := c1
          clear fin eE eV hq ec hc hl1 hl2 hn c1
          refine H.podiumref56_Need.view hmix rfl rfl ?_
          repeat' (first 
           | (with_reducible refine Fresh.intro fun b hb => ?_) <;> (try simp -dsimp -implicitDefEqProofs [*] at hb)
           | (with_reducible refine Rets.xcall (c1' _) ?_)
           | (with_reducible refine Rets.xcall (c3' _) ?_)
           | (with_reducible refine Rets.xcall (cl _) ?_)
           | (simp -dsimp -implicitDefEqProofs [*]))
          exact RetView.drop (st' := st) (by repeat' (first | exact StLe.refl _ | (refine StLe_cons (by simp [*]; done) ?_) | (refine StLe_fresh (by simp [*]; done) ?_))) ⟨rfl, rfl⟩
        · have eE0 : needE N W s1 L1 s2 L2 = 0 := by rw [eE, if_pos ⟨hc.1, hc.2, by omega⟩]
          have eK : needK N W s1 L1 s2 L2 = (needR N W q : Nat) := by
            unfold needK
            rw [if_pos eE0, eV]
            rfl
          rw [eE0, eK]
          have sp := needR_spec (needR_last (n := N) (w := W) (q := q) (by omega) hW hc.1)
          obtain ⟨K, hK⟩ : ∃ K, K = needR N W q := ⟨_, rfl⟩
          rw [← hK] at sp ⊢
          have hlp : Hid (∀ i, i ≤ K → ∃ M : List PV, (∀ st, Rets P F.podiumref56_miss [.int N, .int W, .int i] st (.agg M)) ∧ ∀ st, Rets P F.podiumref56_more [.agg M, .agg [.bool s1, intLst t1 L1, .bool s2, intLst t2 L2]] st (.bool (decide (i < K)))) := ⟨fun i hi => by
            have hiN : i ≤ N := by omega
            obtain ⟨m1, m2⟩ := missR_small (w := W) (show N ≤ 4096 by omega) hiN
            have k1 := dl_pow (show i ≤ 40 by omega) m1
            have k2 := dl_pow (show i ≤ 40 by omega) m2
            have c := rMore_spec false false t1 t2 (missR N W i) q ⟨by omega, by omega⟩ (few_dl d1 d2) (Nat.le_trans (dl_mul_nat _ _) (by omega)) (Nat.le_trans (dl_mul_nat _ _) (by omega))
            have e : decide (q < missR N W i) = decide (i < K) := decide_eq_decide.2 (by
              rw [← Rat.not_le]
              constructor
              · intro h
                by_cases hi2 : i < K
                · exact hi2
                · have : i = K := by omega
                  subst this
                  exact absurd sp.2.1 h
              · exact fun h => sp.2.2 i h)
            rw [e, ← ec] at c
            exact ⟨_, rMiss_spec N W i (by omega) hW hiN, c⟩⟩
          have hKN : K ≤ N := sp.1
          clear fin eE eV hq ec hc hl1 hl2 hn eE0 eK sp hK d1 d2
          refine H.podiumref56_Need.view hmix rfl rfl ?_
          repeat' (first 
           | (with_reducible refine Fresh.intro fun b hb => ?_) <;> (try simp -dsimp -implicitDefEqProofs [*] at hb)
           | (with_reducible refine Rets.xcall (c1 _) ?_)
           | (with_reducible refine Rets.xcall (c3' _) ?_)
           | (with_reducible refine Rets.xcall (cl _) ?_)
           | (simp -dsimp -implicitDefEqProofs [*]))
          clear c1 c3' cl
          refine xloop_for (fun y : Nat => [(8, .int y), (0, .int N), (1, .int W), (5, .ptr b 0)]) (fun _ => (b, .arr T.apiRatio [.bool s1, intLst t1 L1, .bool s2, intLst t2 L2]) :: st) (fun y => y ≤ K) (fun y => K - y) 0 (Nat.zero_le _) (by simp) (by simp) ?_
          intro i hi
          obtain ⟨M, m1, m2⟩ := hlp.out i hi
          have x5 := wrap_succ (n := i) (by omega)
          by_cases hiK : i < K
          · rw [decide_eq_true hiK] at m2
            clear hlp
            repeat' (first 
             | (with_reducible refine Rets.xcall (m1 _) ?_)
             | (with_reducible refine Rets.xcall (m2 _) ?_)
             | (with_reducible refine DrawLate.intro [] ?_)
             | (simp -dsimp -implicitDefEqProofs [*]))
            exact Next.intro (i + 1) hiK (by omega) (by simp) (by repeat' (first | exact StLe.refl _ | (refine StLe_cons (by simp [*]; done) ?_) | (refine StLe_fresh (by simp [*]; done) ?_)))
          · rw [decide_eq_false hiK] at m2
            have e : i = K := by omega
            subst e
            clear hlp
            repeat' (first 
             | (with_reducible refine Rets.xcall (m1 _) ?_)
             | (with_reducible refine Rets.xcall (m2 _) ?_)
             | (with_reducible refine DrawLate.intro [] ?_)
             | (simp -dsimp -implicitDefEqProofs [*]))
            exact RetView.drop (st' := st) (by repeat' (first | exact StLe.refl _ | (refine StLe_cons (by simp [*]; done) ?_) | (refine StLe_fresh (by simp [*]; done) ?_))) ⟨rfl, rfl⟩
      · rw [decide_eq_false hc] at cl
        refine fin 560 (by rw [eE, if_neg (fun h => hc ⟨h.1, h.2.1⟩)]) (by decide) ?_
        clear fin eE eV hq ec hc hl1 hl2 hn
        refine H.podiumref56_Need.view hmix rfl rfl ?_
        repeat' (first 
         | (with_reducible refine Fresh.intro fun b hb => ?_) <;> (try simp -dsimp -implicitDefEqProofs [*] at hb)
         | (with_reducible refine Rets.xcall (c1 _) ?_)
         | (with_reducible refine Rets.xcall (c3' _) ?_)
         | (with_reducible refine Rets.xcall (cl _) ?_)
         | (simp -dsimp -implicitDefEqProofs [*]))
        exact RetView.drop (st' := st) (by repeat' (first | exact StLe.refl _ | (refine StLe_cons (by simp [*]; done) ?_) | (refine StLe_fresh (by simp [*]; done) ?_))) ⟨rfl, rfl⟩
end Go.Proofs.YtiaebckdjklnoaaGreat
