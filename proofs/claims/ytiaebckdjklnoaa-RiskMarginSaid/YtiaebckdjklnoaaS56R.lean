/- Package risk: chances. -/
import Derived.Test.YtiaebckdjklnoaaS56P
import Derived.Test.YtiaebckdjklnoaaLRg
namespace Go.Proofs.Ytiaebckdjklnoaa
open Go.Pv
set_option maxRecDepth 100000
set_option maxHeartbeats 4000000
def wi (n most : Int) : Bool := decide (0 ≤ n) && decide (n ≤ most)
theorem within_spec (n most : Int) (st : Store) : Rets P F.risk_within [.int n, .int most] st (.bool (wi n most)) := by
  refine H.risk_within.pure hmix rfl rfl ?_
  repeat' (first 
   | (with_reducible refine And.intro (fun h => ?_) (fun h => ?_)) <;> (try (exfalso; omega))
   | (simp -dsimp -implicitDefEqProofs [wi, *]))
  all_goals (intros; omega)
theorem whole_spec (n : Int) (h1 : -1152921504606846976 ≤ n) (h2 : n ≤ 1152921504606846976) (st : Store) : Rets P F.risk_whole [.int n] st (.agg (rC false false (mkRat n 1))) := by
  have c := ratMake_spec n 1 (by decide) h1 h2 (by decide)
  obtain ⟨Q, hQ⟩ : ∃ Q, Q = rC false false (mkRat n 1) := ⟨_, rfl⟩
  have lQ : Q.length = 4 := by rw [hQ]; rfl
  have f1 := cells_all (c := [PV.bool false, PV.nil, PV.bool false, PV.nil]) (V := Q) (by simp [lQ])
  have f2 := cells_sub lQ
  have f3 := cells_all (c := Q) (V := Q) rfl
  rw [← hQ] at c ⊢
  have c : ∀ st, Rets P F.ratio_Make [.int n, .int 1] st (.tuple [.agg Q, .int 0]) := c
  clear hQ
  refine H.risk_whole.view hmix rfl rfl ?_
  repeat' (first 
   | (with_reducible refine Fresh.intro fun b hb => ?_) <;> (try simp -dsimp -implicitDefEqProofs [*] at hb)
   | (with_reducible refine Rets.xcall (c _) ?_)
   | (simp -dsimp -implicitDefEqProofs [*]))
  exact RetView.drop (st' := st) (by repeat' (first | exact StLe.refl _ | (refine StLe_cons (by simp [*]; done) ?_) | (refine StLe_fresh (by simp [*]; done) ?_))) ⟨rfl, rfl⟩
theorem chances_spec (n w : Int) (st : Store) : Rets P F.risk_chances [.int n, .int w] st (.func (.func F.risk_chances_1) [] [.iptr [.int n] 0, .iptr [.int w] 0]) := by
  refine H.risk_chances.view hmix rfl rfl ?_
  repeat' (first 
   | (with_reducible refine Fresh.intro fun b hb => ?_) <;> (try simp -dsimp -implicitDefEqProofs [*] at hb)
   | (with_reducible refine RetView.fz 1 ?_ ?_)
   | (with_reducible refine RetView.same ?_)
   | (simp -dsimp -implicitDefEqProofs [*]))
theorem pow_small {k N M : Nat} (h : k ≤ N) (e : 12 * N < 30 * M) : 4096 ^ k < 1073741824 ^ M := by
  have e1 : (4096 : Nat) ^ k ≤ 4096 ^ N := Nat.pow_le_pow_right (by decide) h
  have e2 : (4096 : Nat) ^ N < 1073741824 ^ M := by
    rw [show (4096 : Nat) = 2 ^ 12 by rfl, show (1073741824 : Nat) = 2 ^ 30 by rfl, ← Nat.pow_mul, ← Nat.pow_mul]
    exact Nat.pow_lt_pow_right (by decide) e
  exact Nat.lt_of_le_of_lt e1 e2
theorem small_miss {n w k : Nat} (hn : n ≤ 4096) (h : k ≤ n) : Small (missR n w k) := by
  obtain ⟨h1, h2⟩ := missR_small (w := w) hn h
  have key : ∀ m, m ≤ 4096 ^ k → dl m ≤ 2048 := fun m hm => dl_le.2 (Nat.lt_of_le_of_lt hm (pow_small (N := 4096) (M := 2048) (by omega) (by decide)))
  exact ⟨key _ h1, key _ h2⟩
theorem miss_mul {n w k : Nat} (hn : n ≤ 4096) (h : k < n) : MulSmall (missR n w k) (mkRat ((n - w - k : Nat) : Int) (n - k)) := by
  obtain ⟨h1, h2⟩ := missR_small (w := w) hn (show k ≤ n by omega)
  obtain ⟨h3, h4⟩ := mkRat_small ((n - w - k : Nat) : Int) (show n - k ≠ 0 by omega)
  have e0 : ((n - w - k : Nat) : Int).natAbs = n - w - k := rfl
  have key : ∀ m, m ≤ 4096 ^ k * 4096 → dl m ≤ 2048 := fun m hm => by
    rw [← Nat.pow_succ] at hm
    exact dl_le.2 (Nat.lt_of_le_of_lt hm (pow_small (N := 4096) (M := 2048) (by omega) (by decide)))
  have p0 : 0 < 4096 ^ k := Nat.pow_pos (by decide)
  refine ⟨small_miss hn (by omega), ⟨key _ ?_, key _ ?_⟩, key _ ?_, key _ ?_⟩
  · have := Nat.mul_le_mul p0 (show (mkRat ((n - w - k : Nat) : Int) (n - k)).num.natAbs ≤ 4096 by omega)
    omega
  · have := Nat.mul_le_mul p0 (show (mkRat ((n - w - k : Nat) : Int) (n - k)).den ≤ 4096 by omega)
    omega
  · rw [Int.natAbs_mul]
    exact Nat.mul_le_mul h1 (by omega)
  · exact Nat.mul_le_mul h2 (by omega)
theorem chances1_gives (n w : Nat) (hn : n ≤ 4096) (hw : w ≤ n) : GivesF P F.risk_chances_1 [] [.iptr [.int n] 0, .iptr [.int w] 0] (n + 1) (fun i => [.int i, .agg (rC false false (missR n w i))]) := by
  intro σ S inv fin lp hround s0 hs0
  have cw := whole_spec 1 (by decide) (by decide)
  have e1 : mkRat 1 1 = missR n w 0 := rfl
  rw [e1] at cw
  have H : ∃ V : Nat → List PV, ∀ i, V i = rC false false (missR n w i) := ⟨fun i => rC false false (missR n w i), fun _ => rfl⟩
  obtain ⟨V, hV⟩ := H
  have lV : ∀ i, (V i).length = 4 := fun i => by rw [hV]; rfl
  rw [← hV] at cw
  simp only [← hV] at hround
  have kV : Hid (∀ i, V i = rC false false (missR n w i)) := ⟨hV⟩
  clear hV e1
  have f1 := cells_all (c := [PV.bool false, PV.nil, PV.bool false, PV.nil]) (V := V 0) (by simp [lV])
  obtain ⟨m, hm⟩ : ∃ m, m = n + 1 := ⟨_, rfl⟩
  have w1 : IntKind.i64.wrap ((n : Int) + 1) = m := by rw [hm, wrap_in (by omega) (by omega)]; omega
  rw [← hm] at hround ⊢
  refine H.risk_chances_1.view hmix rfl rfl ?_
  have kr : Hid (∀ (i : Nat) (s : σ) (b : Nat) (o : PObj), inv i s → i < m → snew (S s) b → PRound P lp [.int i, .agg (V i)] ((b, o) :: S s) fun e st' => ∃ s', st' = (b, o) :: S s' ∧ snew (S s') b ∧ ((e = .ret (.bool true) ∧ inv (i + 1) s') ∨ (e = .ret (.bool false) ∧ fin s'))) := ⟨hround⟩
  have km : Hid (m = n + 1) := ⟨hm⟩
  clear hround hm
  repeat' (first 
   | (with_reducible refine Fresh.intro fun b hb => ?_) <;> (try simp -dsimp -implicitDefEqProofs [*] at hb)
   | (with_reducible refine Rets.xcall (cw _) ?_)
   | (simp -dsimp -implicitDefEqProofs [*]))
  clear cw f1 w1
  refine xloop_for (fun y : Nat × σ => [(0, .func (.yield lp) [] []), (1, .iptr [.int n] 0), (2, .iptr [.int w] 0), (4, .ptr b 0), (10, .int m), (11, .int y.1)]) (fun y => (b, .arr T.apiRatio (V (min y.1 n))) :: S y.2) (fun y => y.1 ≤ m ∧ inv y.1 y.2 ∧ snew (S y.2) b) (fun y => m - y.1) (0, s0) ⟨Nat.zero_le _, hs0, hb⟩ (by simp) (by simp) ?_
  clear hs0 hb
  rintro ⟨i, s⟩ ⟨hi, hs, hb⟩
  simp only at hi hs hb
  by_cases him : i < m
  · have hr := kr.out i s b (.arr T.apiRatio (V i)) hs him hb
    have emin : min i n = i := Nat.min_eq_left (by have := km.out; omega)
    rw [emin]
    have f2 := cells_sub (lV i)
    have x5 := wrap_succ (n := i) (by have := km.out; omega)
    have hr : Hid _ := ⟨hr⟩
    repeat' (simp -dsimp -implicitDefEqProofs [*])
    refine xround_post hr.out fun e st' hq => ?_
    obtain ⟨s', rfl, hb', ⟨rfl, hi'⟩ | ⟨rfl, hi'⟩⟩ := hq
    · clear hr hs hb
      by_cases hin : i < n
      · have em2 : min (i + 1) n = i + 1 := Nat.min_eq_left (by omega)
        have x1 : IntKind.i64.wrap ((n : Int) - w) = (n : Int) - w := wrap_in (by omega) (by omega)
        obtain ⟨z, hz⟩ : ∃ z, z = (n : Int) - w - i := ⟨_, rfl⟩
        have x2 : IntKind.i64.wrap ((n : Int) - w - i) = z := by rw [← hz]; exact wrap_in (by omega) (by omega)
        obtain ⟨u, hu⟩ : ∃ u, u = n - w - i := ⟨_, rfl⟩
        have x3 : (if 0 < z then z else 0) = (u : Int) := by split <;> omega
        obtain ⟨e, he⟩ : ∃ e, e = n - i := ⟨_, rfl⟩
        have x4 : IntKind.i64.wrap ((n : Int) - i) = (e : Int) := by rw [he, wrap_in (by omega) (by omega)]; omega
        have c1 := ratMake_spec (u : Int) e (by omega) (by omega) (by omega) (by omega)
        have c2 := ratMul_spec false false false false _ _ (miss_mul (w := w) hn hin)
        have e3 : missR n w i * mkRat ((n - w - i : Nat) : Int) (n - i) = missR n w (i + 1) := rfl
        rw [e3, ← kV.out, ← kV.out, ← hu, ← he] at c2
        obtain ⟨G, hG⟩ : ∃ G, G = rC false false (mkRat (u : Int) e) := ⟨_, rfl⟩
        have lG : G.length = 4 := by rw [hG]; rfl
        rw [← hG] at c1 c2
        have f3 := cells_sub lG
        have f4 := cells_all (c := [PV.bool false, PV.nil, PV.bool false, PV.nil]) (V := G) (by simp [lG])
        have f5 := cells_all (c := V i) (V := V (i + 1)) (by rw [lV, lV])
        clear hz hu he hG e3
        repeat' (first 
         | (with_reducible refine Fresh.intro fun b hb => ?_) <;> (try simp -dsimp -implicitDefEqProofs [*] at hb)
         | (with_reducible refine Rets.xcall (c1 _) ?_)
         | (with_reducible refine Rets.xcall (c2 _) ?_)
         | (simp -dsimp -implicitDefEqProofs [*]))
        refine Next.intro (i + 1, s') ⟨by simp only; omega, hi', hb'⟩ (by simp only; omega) (by simp) ?_
        simp only [em2]
        exact .fresh (by simp [*])
      · have em2 : min (i + 1) n = i := by have := km.out; omega
        repeat' (simp -dsimp -implicitDefEqProofs [*])
        refine Next.intro (i + 1, s') ⟨by simp only; omega, hi', hb'⟩ (by simp only; omega) (by simp) ?_
        simp only [em2]
        exact .refl _
    · clear hr hs hb
      repeat' (simp -dsimp -implicitDefEqProofs [*])
      exact .drop (.fresh hb') ⟨rfl, s', rfl, .inr hi'⟩
  · have e : i = m := by omega
    subst e
    repeat' (simp -dsimp -implicitDefEqProofs [*])
    exact .drop (.fresh hb) ⟨rfl, s, rfl, .inl hs⟩
end Go.Proofs.Ytiaebckdjklnoaa
/- Package risk: the first of a sequence; Miss, Need. -/
namespace Go.Proofs.Ytiaebckdjklnoaa
open Go.Pv
set_option maxRecDepth 100000
set_option maxHeartbeats 4000000
theorem first_spec (g h : FuncId) (fs cs cs2 : List PV) (hent : Enters P g) (n k : Nat) (V : Nat → List PV) (lV : ∀ i, (V i).length = 4) (hy : GivesF P g fs cs n (fun i => [.int i, .agg (V i)])) (st : Store) (p : Nat → Bool)
    (hp : ∀ (i : Nat) (st' : Store), i < n → StLe st st' → Rets P h ([.int i, .agg (V i)] ++ cs2) st' (.bool (p i))) (hk : k < n) (hpk : p k = true) (hpj : ∀ j, j < k → p j = false) :
    Rets P F.risk_first__int_apiRatio [.func (.func g) fs cs, .func (.func h) [] cs2] st (.tuple [.int k, .agg (V k)]) := by
  refine H.risk_first__int_apiRatio.view hmix rfl rfl ?_
  have kp : Hid (∀ (i : Nat) (st' : Store), i < n → StLe st st' → Rets P h ([.int i, .agg (V i)] ++ cs2) st' (.bool (p i))) := ⟨hp⟩
  have kk : Hid (p k = true ∧ ∀ j, j < k → p j = false) := ⟨hpk, hpj⟩
  clear hp hpk hpj
  repeat' (first 
   | (with_reducible refine Fresh.intro fun b hb => ?_) <;> (try simp -dsimp -implicitDefEqProofs [*] at hb)
   | (simp -dsimp -implicitDefEqProofs [*]))
  revert b
  revert b
  revert b
  intro p3 h3 p4 h4 p5 h5
  refine xrange_func hent fun key hkey lp hlp => ?_
  simp -dsimp -implicitDefEqProofs [*] at hlp
  refine xcall_post (hy (Option Unit × Int × List PV) (fun z => (lp, .loop key _ (lsR z.1) (lpR z.1)) :: (p5, .arr T.apiRatio z.2.2) :: (p4, .arr T.int [.int z.2.1]) :: (p3, .arr T.funcintapiRatiobool [.func (.func h) [] cs2]) :: st)
    (fun i z => z.1 = none ∧ z.2.2.length = 4 ∧ i ≤ k) (fun z => z.1 = some () ∧ z.2.1 = k ∧ z.2.2 = V k) lp ?_ (none, 0, [.bool false, .nil, .bool false, .nil]) ⟨rfl, rfl, Nat.zero_le _⟩) ?_
  · rintro i ⟨o, x, c⟩ b ob ⟨ho, hc, hi⟩ hin hb
    simp only at ho hc hi hb
    subst ho
    simp only [lsR_none, lpR_none]
    simp only [snew_cons] at hb
    have f1 := cells_all (c := c) (V := V i) (by rw [hc, lV])
    have f2 := cells_sub (lV i)
    have f3 := cells_all (c := V i) (V := V i) rfl
    refine pround_walkS hmix hkey (by simp [*]; rfl) rfl ?_
    clear hkey hy
    cases hpi : p i with
    | true =>
      have e : i = k := by
        apply Classical.byContradiction
        intro hne
        have := kk.out.2 i (by omega)
        rw [hpi] at this; cases this
      subst e
      repeat' (simp -dsimp -implicitDefEqProofs [*])
      refine Rets.xcall (kp.out i _ hin (by repeat' (first | exact StLe.refl _ | (refine StLe_cons (by simp [*]; done) ?_) | (refine StLe_fresh (by simp [*]; done) ?_)))) ?_
      repeat' (simp -dsimp -implicitDefEqProofs [*])
      refine DrawLate.intro [p4] ?_
      repeat' (simp -dsimp -implicitDefEqProofs [*])
      exact ⟨_, StLe.refl _, some (), _, _, rfl, rfl, rfl, rfl⟩
    | false =>
      have hlt : i < k := by
        apply Nat.lt_of_le_of_ne hi
        rintro rfl
        have := kk.out.1
        rw [hpi] at this; cases this
      repeat' (simp -dsimp -implicitDefEqProofs [*])
      refine Rets.xcall (kp.out i _ hin (by repeat' (first | exact StLe.refl _ | (refine StLe_cons (by simp [*]; done) ?_) | (refine StLe_fresh (by simp [*]; done) ?_)))) ?_
      repeat' (simp -dsimp -implicitDefEqProofs [*])
      exact ⟨_, StLe.refl _, none, _, _, rfl, rfl, lV i, hlt⟩
  · rintro e st' ⟨rfl, ⟨o, x, c⟩, rfl, ⟨ho, hc, hi⟩ | ⟨ho, hx, hc⟩⟩
    · exfalso
      have hi : n ≤ k := hi
      omega
    · simp only at ho hx hc
      subst ho; subst hx; subst hc
      clear hy hkey
      have f2 := cells_sub (lV k)
      repeat' (simp -dsimp -implicitDefEqProofs [*])
      exact RetView.drop (st' := st) (by repeat' (first | exact StLe.refl _ | (refine StLe_cons (by simp [*]; done) ?_) | (refine StLe_fresh (by simp [*]; done) ?_))) ⟨rfl, rfl⟩
theorem miss1_spec (i k p : Nat) (U : TypeId) (c : List PV) (st : Store) (hp : sget st p = some (.arr U [.int k])) : Rets P F.risk_Miss_1 [.int i, .agg c, .ptr p 0] st (.bool (decide (i = k))) := by
  refine H.risk_Miss_1.pure hmix rfl rfl ?_
  repeat' (first 
   | (with_reducible refine Fresh.intro fun b hb => ?_) <;> (try simp -dsimp -implicitDefEqProofs [*] at hb)
   | (simp -dsimp -implicitDefEqProofs [*]))
  have hne := snew_ne hb hp
  repeat' (simp -dsimp -implicitDefEqProofs [*])
  omega
theorem miss_spec (n w k : Nat) (hn : n ≤ 4096) (hw : w ≤ n) (hk : k ≤ n) (st : Store) : Rets P F.risk_Miss [.int n, .int w, .int k] st (.tuple [.agg (rC false false (missR n w k)), .int 0]) := by
  have c1 : ∀ st, Rets P F.risk_within [.int n, .int 4096] st (.bool true) := fun st => by
    have := within_spec n 4096 st
    rwa [show wi n 4096 = true by simp [wi]; omega] at this
  have c2 : ∀ st, Rets P F.risk_within [.int w, .int n] st (.bool true) := fun st => by
    have := within_spec w n st
    rwa [show wi w n = true by simp [wi]; omega] at this
  have c3 : ∀ st, Rets P F.risk_within [.int k, .int n] st (.bool true) := fun st => by
    have := within_spec k n st
    rwa [show wi k n = true by simp [wi]; omega] at this
  have H1 : ∃ V : Nat → List PV, ∀ i, V i = rC false false (missR n w i) := ⟨fun i => rC false false (missR n w i), fun _ => rfl⟩
  obtain ⟨V, hV⟩ := H1
  have lV : ∀ i, (V i).length = 4 := fun i => by rw [hV]; rfl
  have hy := chances1_gives n w hn hw
  simp only [← hV] at hy
  rw [← hV]
  clear hV
  have f1 := cells_all (c := [PV.bool false, PV.nil, PV.bool false, PV.nil]) (V := V k) (by simp [lV])
  have f2 := cells_sub (lV k)
  have f3 := cells_all (c := V k) (V := V k) rfl
  refine H.risk_Miss.view hmix rfl rfl ?_
  repeat' (first 
   | (with_reducible refine Fresh.intro fun b hb => ?_) <;> (try simp -dsimp -implicitDefEqProofs [*] at hb)
   | (with_reducible refine Rets.xcall (c1 _) ?_)
   | (with_reducible refine Rets.xcall (c2 _) ?_)
   | (with_reducible refine Rets.xcall (c3 _) ?_)
   | (with_reducible refine Rets.xcall (chances_spec _ _ _) ?_)
   | (simp -dsimp -implicitDefEqProofs [*]))
  revert b
  revert b
  intro p5 h5 p6 h6
  have hF := first_spec F.risk_chances_1 F.risk_Miss_1 [] [.iptr [.int n] 0, .iptr [.int w] 0] [.ptr p5 0] H.risk_chances_1.enters (n + 1) k V lV hy ((p6, .arr T.apiRatio [.bool false, .nil, .bool false, .nil]) :: (p5, .arr T.int [.int k]) :: st) (fun i => decide (i = k))
    (fun i st' _ hs => miss1_spec i k p5 T.int (V i) st' (hs _ _ (by simp [h6]))) (by omega) (by simp) (fun j hj => by simp; omega)
  clear hy c1 c2 c3
  repeat' (first 
   | (with_reducible refine Rets.xcall (hF) ?_)
   | (simp -dsimp -implicitDefEqProofs [*]))
  exact RetView.drop (st' := st) (by repeat' (first | exact StLe.refl _ | (refine StLe_cons (by simp [*]; done) ?_) | (refine StLe_fresh (by simp [*]; done) ?_))) ⟨rfl, rfl⟩
end Go.Proofs.Ytiaebckdjklnoaa
