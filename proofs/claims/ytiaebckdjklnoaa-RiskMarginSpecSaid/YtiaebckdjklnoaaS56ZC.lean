/- Sane. -/
import Derived.Test.YtiaebckdjklnoaaS56ZB
import Derived.Test.YtiaebckdjklnoaaS56ZA
import Derived.Test.YtiaebckdjklnoaaS56S1
namespace Go.Proofs.Ytiaebckdjklnoaa
open Go.Pv
set_option maxRecDepth 100000
set_option maxHeartbeats 8000000
theorem miss_err (n w k : Int) (h : (wi n 4096 && wi w n && wi k n) = false) (st : Store) : Rets P F.risk_Miss [.int n, .int w, .int k] st (.tuple [.agg [.bool false, .list false [] 0, .bool false, .list false [] 0], .int 1]) := by
  have c1 := within_spec n 4096
  have c2 := within_spec w n
  have c3 := within_spec k n
  have pl : PLe (.tuple [.agg [.bool false, .nil, .bool false, .nil], .int 1]) (.tuple [.agg [.bool false, .list false [] 0, .bool false, .list false [] 0], .int 1]) := PLe.tuples ⟨PLe.aggs ⟨.refl _, PLe.nil0, .refl _, PLe.nil0, trivial⟩, .refl _, trivial⟩
  cases h1 : wi n 4096 with
  | false =>
    rw [h1] at c1
    clear h h1
    refine H.risk_Miss.view hmix rfl rfl ?_
    repeat' (first 
     | (with_reducible refine Fresh.intro fun b hb => ?_) <;> (try simp -dsimp -implicitDefEqProofs [*] at hb)
     | (with_reducible refine Rets.xcall (c1 _) ?_)
     | (simp -dsimp -implicitDefEqProofs [*]))
    refine .le pl ?_
    exact RetView.drop (st' := st) (by repeat' (first | exact StLe.refl _ | (refine StLe_cons (by simp [*]; done) ?_) | (refine StLe_fresh (by simp [*]; done) ?_))) ⟨rfl, rfl⟩
  | true =>
    rw [h1] at c1
    cases h2 : wi w n with
    | false =>
      rw [h2] at c2
      clear h h1 h2
      refine H.risk_Miss.view hmix rfl rfl ?_
      repeat' (first 
       | (with_reducible refine Fresh.intro fun b hb => ?_) <;> (try simp -dsimp -implicitDefEqProofs [*] at hb)
       | (with_reducible refine Rets.xcall (c1 _) ?_)
       | (with_reducible refine Rets.xcall (c2 _) ?_)
       | (simp -dsimp -implicitDefEqProofs [*]))
      refine .le pl ?_
      exact RetView.drop (st' := st) (by repeat' (first | exact StLe.refl _ | (refine StLe_cons (by simp [*]; done) ?_) | (refine StLe_fresh (by simp [*]; done) ?_))) ⟨rfl, rfl⟩
    | true =>
      have h3 : wi k n = false := by simpa [h1, h2] using h
      rw [h2] at c2
      rw [h3] at c3
      clear h h1 h2 h3
      refine H.risk_Miss.view hmix rfl rfl ?_
      repeat' (first 
       | (with_reducible refine Fresh.intro fun b hb => ?_) <;> (try simp -dsimp -implicitDefEqProofs [*] at hb)
       | (with_reducible refine Rets.xcall (c1 _) ?_)
       | (with_reducible refine Rets.xcall (c2 _) ?_)
       | (with_reducible refine Rets.xcall (c3 _) ?_)
       | (simp -dsimp -implicitDefEqProofs [*]))
      refine .le pl ?_
      exact RetView.drop (st' := st) (by repeat' (first | exact StLe.refl _ | (refine StLe_cons (by simp [*]; done) ?_) | (refine StLe_fresh (by simp [*]; done) ?_))) ⟨rfl, rfl⟩
theorem margin_long (gap : Int) (b n cap : Nat) (hn : 4096 < n) (st : Store) : Rets P F.risk_Margin [.int gap, .own b 0 n cap] st (.tuple [.int 0, .int 2]) := by
  have h : (4096 : Int) < n := by omega
  refine H.risk_Margin.view hmix rfl rfl ?_
  repeat' (simp -dsimp -implicitDefEqProofs [*])
  exact RetView.drop (st' := st) (by repeat' (first | exact StLe.refl _ | (refine StLe_cons (by simp [*]; done) ?_) | (refine StLe_fresh (by simp [*]; done) ?_))) ⟨rfl, rfl⟩
theorem margin_neg (gap : Int) (h : wi gap 1099511627776 = false) (t : Bool) (l : List Int) (hn : l.length ≤ 4096) (st : Store) : Rets P F.risk_Margin [.int gap, intLst t l] st (.tuple [.int 0, .int 1]) := by
  have c1 := within_spec gap 1099511627776
  rw [h] at c1
  clear h
  have h : ¬ (4096 : Int) < l.length := by omega
  refine H.risk_Margin.view hmix rfl rfl ?_
  repeat' (first 
   | (with_reducible refine Rets.xcall (c1 _) ?_)
   | (simp -dsimp -implicitDefEqProofs [*]))
  exact RetView.drop (st' := st) (by repeat' (first | exact StLe.refl _ | (refine StLe_cons (by simp [*]; done) ?_) | (refine StLe_fresh (by simp [*]; done) ?_))) ⟨rfl, rfl⟩
theorem is_spec (n w k : Nat) (a : Int) (d : Nat) (hn : n ≤ 40) (hw : w ≤ n) (hk : k ≤ n) (ha : a.natAbs < 1000) (hd : d ≠ 0) (hd2 : d < 1000) (e : missR n w k = mkRat a d) (st : Store) : Rets P F.podiumlaw56_is [.int n, .int w, .int k, .int a, .int d] st (.bool true) := by
  have c1 := miss_spec n w k (by omega) hw hk
  have c2 := ratMake_spec a d hd (by omega) (by omega) (by omega)
  rw [← e] at c2
  obtain ⟨m1, m2⟩ := missR_small (w := w) (show n ≤ 4096 by omega) hk
  have d1 := dl_pow (show k ≤ 40 by omega) m1
  have d2 := dl_pow (show k ≤ 40 by omega) m2
  have c3 : ∀ st, Rets P F.podiumref10_Same [.agg (rC false false (missR n w k)), .agg (rC false false (missR n w k))] st (.bool true) := fun st => by
    rw [rC_cells]
    have := same10_spec (decide ((missR n w k).num < 0)) false false false (decide ((missR n w k).num < 0)) false false false (digs (missR n w k).num.natAbs) (digs (missR n w k).den) (digs (missR n w k).num.natAbs) (digs (missR n w k).den) (by unfold dl at d1; omega) (by unfold dl at d2; omega) st
    rw [decide_eq_true rfl, decide_eq_true rfl, decide_eq_true rfl, decide_eq_true rfl] at this
    exact this
  have c4 : ∀ st, Rets P F.podiumref10_Check [.agg (rC false false (missR n w k))] st (.int 0) := fun st => by
    have := rCheck10_spec (decide ((missR n w k).num < 0)) false false false (digs (missR n w k).num.natAbs) (digs (missR n w k).den) (by unfold dl at d1; omega) (by unfold dl at d2; omega) st
    rw [ratOk_of ⟨by omega, by omega⟩] at this
    rw [rC_cells]
    exact this
  obtain ⟨X, hX⟩ : ∃ X, X = rC false false (missR n w k) := ⟨_, rfl⟩
  have lX : X.length = 4 := by rw [hX]; rfl
  rw [← hX] at c1 c2 c3 c4
  have fX := cells_sub lX
  have aX : setCells [.bool false, .nil, .bool false, .nil] 0 X = X := setCells_all X _ lX
  clear hX m1 m2 d1 d2 e
  refine H.podiumlaw56_is.pure hmix rfl rfl ?_
  repeat' (first 
   | (with_reducible refine Fresh.intro fun b hb => ?_) <;> (try simp -dsimp -implicitDefEqProofs [*] at hb)
   | (with_reducible refine Rets.xcall (c1 _) ?_)
   | (with_reducible refine Rets.xcall (c2 _) ?_)
   | (with_reducible refine Rets.xcall (c3 _) ?_)
   | (with_reducible refine Rets.xcall (c4 _) ?_)
   | (simp -dsimp -implicitDefEqProofs [*]))
theorem mgn_spec {gap : Int} {l : List Int} (h : MargIn gap l) (hn : l.length ≤ 4096) {v : Nat} (hv : Marg (sortL l) gap v) (t : Bool) (st : Store) : Rets P F.podiumlaw56_margin [.int gap, .int v, intLst t l] st (.bool true) := by
  have c := margin_spec h hn hv t
  clear h hv hn
  refine H.podiumlaw56_margin.pure hmix rfl rfl ?_
  repeat' (first 
   | (with_reducible refine Rets.xcall (c _) ?_)
   | (simp -dsimp -implicitDefEqProofs [*]))
theorem sortL_eq {l m : List Int} (hl : Small62 l) (hm : Fall m) (hp : m.Perm l) : sortL l = m :=
  Fall.uniq (sortL_facts hl).2 hm ((sortL_facts hl).1.trans hp.symm)
theorem d1 : digs 1 = [1] := by decide +kernel
theorem d2 : digs 2 = [2] := by decide +kernel
theorem d20 : digs 20 = [20] := by decide +kernel
theorem m20 : mkRat 1 20 = ⟨1, 20, by decide, by decide⟩ := by decide +kernel
theorem m2 : mkRat 1 2 = ⟨1, 2, by decide, by decide⟩ := by decide +kernel
theorem m1 : mkRat 1 1 = 1 := by decide +kernel
theorem s_make20 (st : Store) : Rets P F.ratio_Make [.int 1, .int 20] st (.tuple [.agg [.bool false, .list false [.int 1] 1, .bool false, .list false [.int 20] 1], .int 0]) := by
  have := ratMake_spec 1 20 (by decide) (by decide) (by decide) (by decide) st
  rw [m20] at this
  simp [rC, zC, d1, d20] at this
  exact this
theorem s_make2 (st : Store) : Rets P F.ratio_Make [.int 1, .int 2] st (.tuple [.agg [.bool false, .list false [.int 1] 1, .bool false, .list false [.int 2] 1], .int 0]) := by
  have := ratMake_spec 1 2 (by decide) (by decide) (by decide) (by decide) st
  rw [m2] at this
  simp [rC, zC, d1, d2] at this
  exact this
theorem s_make1 (st : Store) : Rets P F.ratio_Make [.int 1, .int 1] st (.tuple [.agg [.bool false, .list false [.int 1] 1, .bool false, .list false [.int 1] 1], .int 0]) := by
  have := ratMake_spec 1 1 (by decide) (by decide) (by decide) (by decide) st
  rw [show mkRat (1 : Int) ((1 : Nat)) = 1 from m1] at this
  simp [rC, zC, d1] at this
  exact this
theorem needs_spec (n w a b k : Int) (x y : Int) (hn : n ≤ 40 ∨ 4096 < n) (cm : ∀ st, Rets P F.ratio_Make [.int a, .int b] st (.tuple [.agg [.bool false, .list false [.int x] 1, .bool false, .list false [.int y] 1], .int 0]))
    (hE : needE n w false [x] false [y] = 0) (hK : needK n w false [x] false [y] = k) (st : Store) : Rets P F.podiumlaw56_needs [.int n, .int w, .int a, .int b, .int k] st (.bool true) := by
  have c := need_spec n w hn false false false false [x] [y] (by unfold Few3; simp) (by unfold Few3; simp)
  rw [hE, hK] at c
  have c : ∀ st, Rets P F.risk_Need [.int n, .int w, .agg [.bool false, .list false [.int x] 1, .bool false, .list false [.int y] 1]] st (.tuple [.int k, .int 0]) := c
  clear hE hK
  refine H.podiumlaw56_needs.pure hmix rfl rfl ?_
  repeat' (first 
   | (with_reducible refine Fresh.intro fun b hb => ?_) <;> (try simp -dsimp -implicitDefEqProofs [*] at hb)
   | (with_reducible refine Rets.xcall (cm _) ?_)
   | (with_reducible refine Rets.xcall (c _) ?_)
   | (simp -dsimp -implicitDefEqProofs [*]))
theorem sane_spec (st : Store) : Rets P F.podiumlaw56_sane [] st (.bool true) := by
  have a1 := miss_err 5 2 6 (by decide)
  have a2 : ∀ st, Rets P F.risk_Need [.int 5, .int 0, .agg [.bool false, .list false [.int 1] 1, .bool false, .list false [.int 2] 1]] st (.tuple [.int 0, .int 560]) := fun st => by
    have := need_spec 5 0 (.inl (by decide)) false false false false [1] [2] (by unfold Few3; decide) (by unfold Few3; decide) st
    rw [show needK 5 0 false [1] false [2] = 0 by decide +kernel, show needE 5 0 false [1] false [2] = 560 by decide +kernel] at this
    exact this
  have a3 : ∀ st, Rets P F.risk_Need [.int 5, .int 1, .agg [.bool false, .nil, .bool false, .nil]] st (.tuple [.int 0, .int 100]) := fun st => by
    have := need_spec 5 1 (.inl (by decide)) false true false true [] [] (by unfold Few3; decide) (by unfold Few3; decide) st
    rw [show needK 5 1 false [] false [] = 0 by decide +kernel, show needE 5 1 false [] false [] = 100 by decide +kernel] at this
    exact Rets.args (qs := [.int 5, .int 1, .agg [.bool false, intLst true [], .bool false, intLst true []]]) ⟨.refl _, .refl _, PLe.aggs ⟨.refl _, PLe.nil, .refl _, PLe.nil, trivial⟩, trivial⟩ this
  have a4 : ∀ st, Rets P F.risk_Margin [.int (-1), .nil] st (.tuple [.int 0, .int 1]) := fun st => Rets.args (qs := [.int (-1), intLst true []]) ⟨.refl _, PLe.nil, trivial⟩ (margin_neg (-1) (by decide) true [] (by simp) st)
  have a5 := fun b cap => margin_long 0 b 4097 cap (by omega)
  have b1 : ∀ st, Rets P F.podiumlaw56_is [.int 5, .int 0, .int 3, .int 1, .int 1] st (.bool true) := is_spec 5 0 3 1 1 (by decide) (by decide) (by decide) (by decide) (by decide) (by decide) (by decide +kernel)
  have b2 : ∀ st, Rets P F.podiumlaw56_is [.int 5, .int 2, .int 4, .int 0, .int 1] st (.bool true) := is_spec 5 2 4 0 1 (by decide) (by decide) (by decide) (by decide) (by decide) (by decide) (by decide +kernel)
  have b3 : ∀ st, Rets P F.podiumlaw56_is [.int 10, .int 2, .int 5, .int 2, .int 9] st (.bool true) := is_spec 10 2 5 2 9 (by decide) (by decide) (by decide) (by decide) (by decide) (by decide) (by decide +kernel)
  have b4 := needs_spec 5 1 1 1 0 1 1 (.inl (by decide)) s_make1 (by decide +kernel) (by decide +kernel)
  have b5 := needs_spec 10 2 1 20 8 1 20 (.inl (by decide)) s_make20 (by decide +kernel) (by decide +kernel)
  have s0 : sortL [] = [] := sortL_eq (by intro x hx; simp at hx) (by unfold Fall; simp) (.refl _)
  have s1 : sortL [2, 5, 1, 3] = [5, 3, 2, 1] := sortL_eq (by unfold Small62; decide) (by unfold Fall; decide) (by decide)
  have g0 : ∀ st, Rets P F.podiumlaw56_margin [.int 0, .int 0, .nil] st (.bool true) := fun st => Rets.args (qs := [.int 0, .int (0 : Nat), intLst true []]) ⟨.refl _, .refl _, PLe.nil, trivial⟩ (mgn_spec ⟨by decide, by simp⟩ (by simp) (by rw [s0]; exact ⟨by decide, by decide⟩) true st)
  have g1 : ∀ st, Rets P F.podiumlaw56_margin [.int 1, .int 1, .nil] st (.bool true) := fun st => Rets.args (qs := [.int 1, .int (1 : Nat), intLst true []]) ⟨.refl _, .refl _, PLe.nil, trivial⟩ (mgn_spec ⟨by decide, by simp⟩ (by simp) (by rw [s0]; exact ⟨by decide, by decide⟩) true st)
  have g2 : ∀ st, Rets P F.podiumlaw56_margin [.int 7, .int 2, .list true [.int 2, .int 5, .int 1, .int 3] 4] st (.bool true) := mgn_spec (l := [2, 5, 1, 3]) (v := 2) ⟨by decide, by decide⟩ (by decide) (by rw [s1]; exact ⟨by decide, by decide⟩) true
  have g3 : ∀ st, Rets P F.podiumlaw56_margin [.int 12, .int 5, .list true [.int 2, .int 5, .int 1, .int 3] 4] st (.bool true) := mgn_spec (l := [2, 5, 1, 3]) (v := 5) ⟨by decide, by decide⟩ (by decide) (by rw [s1]; exact ⟨by decide, by decide⟩) true
  clear s0 s1
  refine H.podiumlaw56_sane.pure hmix rfl rfl ?_
  repeat' (first 
   | (with_reducible refine Fresh.intro fun b hb => ?_) <;> (try simp -dsimp -implicitDefEqProofs [*] at hb)
   | (with_reducible refine Rets.xcall (a1 _) ?_)
   | (with_reducible refine Rets.xcall (s_make2 _) ?_)
   | (with_reducible refine Rets.xcall (a2 _) ?_)
   | (with_reducible refine Rets.xcall (a3 _) ?_)
   | (with_reducible refine Rets.xcall (a4 _) ?_)
   | (with_reducible refine Rets.xcall (a5 _ _ _) ?_)
   | (with_reducible refine Rets.xcall (b1 _) ?_)
   | (with_reducible refine Rets.xcall (b2 _) ?_)
   | (with_reducible refine Rets.xcall (b3 _) ?_)
   | (with_reducible refine Rets.xcall (b4 _) ?_)
   | (with_reducible refine Rets.xcall (b5 _) ?_)
   | (with_reducible refine Rets.xcall (g0 _) ?_)
   | (with_reducible refine Rets.xcall (g1 _) ?_)
   | (with_reducible refine Rets.xcall (g2 _) ?_)
   | (with_reducible refine Rets.xcall (g3 _) ?_)
   | (with_reducible refine Lit.imm ?_)
   | (simp -dsimp -implicitDefEqProofs [*]))
end Go.Proofs.Ytiaebckdjklnoaa
