/- The reference's recounts. -/
import Derived.Test.YtokkkmfbejgccaaGreatG57ZI
import Derived.Test.YtokkkmfbejgccaaGreatG57ZF
namespace Go.Proofs.YtokkkmfbejgccaaGreat
open Go.Pv
set_option maxRecDepth 100000
set_option maxHeartbeats 16000000
theorem rState_spec (a k : Int) (st : Store) : Rets P F.podiumref57_state [.int a, .int k] st (.int (if k ≤ a then 1 else 0)) := by
  by_cases h : k ≤ a
  · rw [if_pos h]
    refine H.podiumref57_state.pure hmix rfl rfl ?_
    repeat' (simp -dsimp -implicitDefEqProofs [*])
  · rw [if_neg h]
    refine H.podiumref57_state.pure hmix rfl rfl ?_
    repeat' (simp -dsimp -implicitDefEqProofs [*])
theorem rStart_spec (n w : Int) (s1 t1 s2 t2 : Bool) (L1 L2 : List Int) (hn : n ≤ 40 ∨ 4096 < n) (hl1 : Few3 L1) (hl2 : Few3 L2) (st : Store) :
    Rets P F.podiumref57_Start [.int n, .int w, .agg [.bool s1, intLst t1 L1, .bool s2, intLst t2 L2]] st (.tuple [.agg ((startR n w s1 L1 s2 L2).enc false false), .int (needE n w s1 L1 s2 L2)]) := by
  have c := rNeed_spec n w hn s1 t1 s2 t2 L1 L2 hl1 hl2
  have hK0 : 0 ≤ needK n w s1 L1 s2 L2 := by unfold needK; split <;> omega
  unfold startR
  obtain ⟨K, hK⟩ : ∃ K, K = needK n w s1 L1 s2 L2 := ⟨_, rfl⟩
  obtain ⟨E, hE⟩ : ∃ E, E = needE n w s1 L1 s2 L2 := ⟨_, rfl⟩
  rw [← hK] at hK0
  rw [← hK, ← hE] at c ⊢
  have cs := rState_spec 0 K
  clear hK hE hn hl1 hl2
  have pl : ∀ (a b : Int) (s s' : Bool) (l l' : PV) (m m' : List Int) (c d e : Int), PLe l (intLst false m) → PLe l' (intLst false m') → PLe (.tuple [.agg [.int a, .int b, .bool s, l, .bool s', l', .int c, .int d], .int e]) (.tuple [.agg [.int a, .int b, .bool s, intLst false m, .bool s', intLst false m', .int c, .int d], .int e]) :=
    fun a b s s' l l' m m' c d e h1 h2 => PLe.tuples ⟨PLe.aggs ⟨.refl _, .refl _, .refl _, h1, .refl _, h2, .refl _, .refl _, trivial⟩, .refl _, trivial⟩
  by_cases h1 : E = 0
  · rw [if_pos h1]
    unfold Rc.enc
    by_cases h2 : K = 0
    · rw [if_pos h2]
      rw [if_pos (by omega)] at cs
      refine H.podiumref57_Start.view hmix rfl rfl ?_
      subst h1
      clear hK0 h2
      repeat' (first 
       | (with_reducible refine Fresh.intro fun b hb => ?_) <;> (try simp -dsimp -implicitDefEqProofs [*] at hb)
       | (with_reducible refine Rets.xcall (c _) ?_)
       | (with_reducible refine Rets.xcall (cs _) ?_)
       | (with_reducible refine DrawLate.intro [] ?_)
       | (simp -dsimp -implicitDefEqProofs [*]))
      refine .le (pl _ _ _ _ _ _ L1 L2 _ _ _ PLe.loose PLe.loose) ?_
      exact RetView.drop (st' := st) (by repeat' (first | exact StLe.refl _ | (refine StLe_cons (by simp [*]; done) ?_) | (refine StLe_fresh (by simp [*]; done) ?_))) ⟨rfl, rfl⟩
    · rw [if_neg h2]
      rw [if_neg (by omega)] at cs
      refine H.podiumref57_Start.view hmix rfl rfl ?_
      subst h1
      clear hK0 h2
      repeat' (first 
       | (with_reducible refine Fresh.intro fun b hb => ?_) <;> (try simp -dsimp -implicitDefEqProofs [*] at hb)
       | (with_reducible refine Rets.xcall (c _) ?_)
       | (with_reducible refine Rets.xcall (cs _) ?_)
       | (with_reducible refine DrawLate.intro [] ?_)
       | (simp -dsimp -implicitDefEqProofs [*]))
      refine .le (pl _ _ _ _ _ _ L1 L2 _ _ _ PLe.loose PLe.loose) ?_
      exact RetView.drop (st' := st) (by repeat' (first | exact StLe.refl _ | (refine StLe_cons (by simp [*]; done) ?_) | (refine StLe_fresh (by simp [*]; done) ?_))) ⟨rfl, rfl⟩
  · rw [if_neg h1]
    unfold Rc.enc Rc.zero
    clear hK0 cs
    refine H.podiumref57_Start.view hmix rfl rfl ?_
    repeat' (first 
     | (with_reducible refine Fresh.intro fun b hb => ?_) <;> (try simp -dsimp -implicitDefEqProofs [*] at hb)
     | (with_reducible refine Rets.xcall (c _) ?_)
     | (simp -dsimp -implicitDefEqProofs [*]))
    refine .le (pl _ _ _ _ _ _ [] [] _ _ _ PLe.nil0 PLe.nil0) ?_
    exact RetView.drop (st' := st) (by repeat' (first | exact StLe.refl _ | (refine StLe_cons (by simp [*]; done) ?_) | (refine StLe_fresh (by simp [*]; done) ?_))) ⟨rfl, rfl⟩
theorem rCheck57_spec (r : Rc) (hr : r.Few) (st : Store) : Rets P F.podiumref57_Check [.agg (r.enc false false)] st (.int (if r.ok then 0 else 570)) := by
  have c0 := rNeed_spec r.n r.w hr.n r.s1 false r.s2 false r.L1 r.L2 hr.l1 hr.l2
  have eok : r.ok = (decide (r.E = 0) && decide (0 ≤ r.a) && ((decide (r.s = 1) && decide (r.a = r.K)) || ((decide (r.s = 0) || decide (r.s = 2)) && decide (r.a < r.K)))) := rfl
  have c : ∀ st, Rets P F.podiumref56_Need [.int r.n, .int r.w, .agg [.bool r.s1, intLst false r.L1, .bool r.s2, intLst false r.L2]] st (.tuple [.int r.K, .int r.E]) := c0
  obtain ⟨K, hK⟩ : ∃ K, K = r.K := ⟨_, rfl⟩
  obtain ⟨E, hE⟩ : ∃ K, K = r.E := ⟨_, rfl⟩
  obtain ⟨o, ho⟩ : ∃ o, o = r.ok := ⟨_, rfl⟩
  rw [← hK, ← hE] at eok c
  rw [← ho] at eok ⊢
  clear ho hK hE hr c0
  obtain ⟨n, w, s1, L1, s2, L2, a, s⟩ := r
  simp only [Rc.enc] at c eok ⊢
  have fin : ∀ b : Bool, o = b → Rets P F.podiumref57_Check [.agg [.int n, .int w, .bool s1, intLst false L1, .bool s2, intLst false L2, .int a, .int s]] st (.int (if b = true then 0 else 570)) → Rets P F.podiumref57_Check [.agg [.int n, .int w, .bool s1, intLst false L1, .bool s2, intLst false L2, .int a, .int s]] st (.int (if o = true then 0 else 570)) := fun b h k => by rw [h]; exact k
  have yes : o = true → Rets P F.podiumref57_Check [.agg [.int n, .int w, .bool s1, intLst false L1, .bool s2, intLst false L2, .int a, .int s]] st (.int 0) → Rets P F.podiumref57_Check [.agg [.int n, .int w, .bool s1, intLst false L1, .bool s2, intLst false L2, .int a, .int s]] st (.int (if o = true then 0 else 570)) := fun h k => by rw [h]; exact k
  have no : o = false → Rets P F.podiumref57_Check [.agg [.int n, .int w, .bool s1, intLst false L1, .bool s2, intLst false L2, .int a, .int s]] st (.int 570) → Rets P F.podiumref57_Check [.agg [.int n, .int w, .bool s1, intLst false L1, .bool s2, intLst false L2, .int a, .int s]] st (.int (if o = true then 0 else 570)) := fun h k => by rw [h]; exact k
  clear fin
  by_cases h1 : E = 0
  · by_cases h2 : 0 ≤ a
    · have h2' : ¬ a < 0 := by omega
      by_cases h3 : s = 1
      · by_cases h4 : a = K
        · refine yes (by rw [eok]; simp [h1, h4]; omega) ?_
          clear yes no eok
          refine H.podiumref57_Check.view hmix rfl rfl ?_
          subst h3 h4 h1
          repeat' (first 
           | (with_reducible refine Fresh.intro fun b hb => ?_) <;> (try simp -dsimp -implicitDefEqProofs [*] at hb)
           | (with_reducible refine Rets.xcall (c _) ?_)
           | (simp -dsimp -implicitDefEqProofs [*]))
          exact RetView.drop (st' := st) (by repeat' (first | exact StLe.refl _ | (refine StLe_cons (by simp [*]; done) ?_) | (refine StLe_fresh (by simp [*]; done) ?_))) ⟨rfl, rfl⟩
        · refine no (by rw [eok]; simp [h1, h2, h3, h4]) ?_
          clear yes no eok
          refine H.podiumref57_Check.view hmix rfl rfl ?_
          subst h3 h1
          repeat' (first 
           | (with_reducible refine Fresh.intro fun b hb => ?_) <;> (try simp -dsimp -implicitDefEqProofs [*] at hb)
           | (with_reducible refine Rets.xcall (c _) ?_)
           | (simp -dsimp -implicitDefEqProofs [*]))
          exact RetView.drop (st' := st) (by repeat' (first | exact StLe.refl _ | (refine StLe_cons (by simp [*]; done) ?_) | (refine StLe_fresh (by simp [*]; done) ?_))) ⟨rfl, rfl⟩
      · by_cases h5 : s = 0
        · by_cases h4 : a < K
          · refine yes (by rw [eok]; simp [h1, h2, h5, h4]) ?_
            clear yes no eok h3
            refine H.podiumref57_Check.view hmix rfl rfl ?_
            subst h5 h1
            repeat' (first 
             | (with_reducible refine Fresh.intro fun b hb => ?_) <;> (try simp -dsimp -implicitDefEqProofs [*] at hb)
             | (with_reducible refine Rets.xcall (c _) ?_)
             | (simp -dsimp -implicitDefEqProofs [*]))
            exact RetView.drop (st' := st) (by repeat' (first | exact StLe.refl _ | (refine StLe_cons (by simp [*]; done) ?_) | (refine StLe_fresh (by simp [*]; done) ?_))) ⟨rfl, rfl⟩
          · refine no (by rw [eok]; simp [h1, h2, h5, h4]) ?_
            clear yes no eok h3
            refine H.podiumref57_Check.view hmix rfl rfl ?_
            subst h5 h1
            repeat' (first 
             | (with_reducible refine Fresh.intro fun b hb => ?_) <;> (try simp -dsimp -implicitDefEqProofs [*] at hb)
             | (with_reducible refine Rets.xcall (c _) ?_)
             | (simp -dsimp -implicitDefEqProofs [*]))
            exact RetView.drop (st' := st) (by repeat' (first | exact StLe.refl _ | (refine StLe_cons (by simp [*]; done) ?_) | (refine StLe_fresh (by simp [*]; done) ?_))) ⟨rfl, rfl⟩
        · by_cases h6 : s = 2
          · by_cases h4 : a < K
            · refine yes (by rw [eok]; simp [h1, h2, h6, h4]) ?_
              clear yes no eok h3 h5
              refine H.podiumref57_Check.view hmix rfl rfl ?_
              subst h6 h1
              repeat' (first 
               | (with_reducible refine Fresh.intro fun b hb => ?_) <;> (try simp -dsimp -implicitDefEqProofs [*] at hb)
               | (with_reducible refine Rets.xcall (c _) ?_)
               | (simp -dsimp -implicitDefEqProofs [*]))
              exact RetView.drop (st' := st) (by repeat' (first | exact StLe.refl _ | (refine StLe_cons (by simp [*]; done) ?_) | (refine StLe_fresh (by simp [*]; done) ?_))) ⟨rfl, rfl⟩
            · refine no (by rw [eok]; simp [h1, h2, h6, h4]) ?_
              clear yes no eok h3 h5
              refine H.podiumref57_Check.view hmix rfl rfl ?_
              subst h6 h1
              repeat' (first 
               | (with_reducible refine Fresh.intro fun b hb => ?_) <;> (try simp -dsimp -implicitDefEqProofs [*] at hb)
               | (with_reducible refine Rets.xcall (c _) ?_)
               | (simp -dsimp -implicitDefEqProofs [*]))
              exact RetView.drop (st' := st) (by repeat' (first | exact StLe.refl _ | (refine StLe_cons (by simp [*]; done) ?_) | (refine StLe_fresh (by simp [*]; done) ?_))) ⟨rfl, rfl⟩
          · refine no (by rw [eok]; simp [h3, h5, h6]) ?_
            clear yes no eok
            refine H.podiumref57_Check.view hmix rfl rfl ?_
            subst h1
            repeat' (first 
             | (with_reducible refine Fresh.intro fun b hb => ?_) <;> (try simp -dsimp -implicitDefEqProofs [*] at hb)
             | (with_reducible refine Rets.xcall (c _) ?_)
             | (simp -dsimp -implicitDefEqProofs [*]))
            exact RetView.drop (st' := st) (by repeat' (first | exact StLe.refl _ | (refine StLe_cons (by simp [*]; done) ?_) | (refine StLe_fresh (by simp [*]; done) ?_))) ⟨rfl, rfl⟩
    · have h2' : a < 0 := by omega
      refine no (by rw [eok]; simp [h2]) ?_
      clear yes no eok h2
      refine H.podiumref57_Check.view hmix rfl rfl ?_
      subst h1
      repeat' (first 
       | (with_reducible refine Fresh.intro fun b hb => ?_) <;> (try simp -dsimp -implicitDefEqProofs [*] at hb)
       | (with_reducible refine Rets.xcall (c _) ?_)
       | (simp -dsimp -implicitDefEqProofs [*]))
      exact RetView.drop (st' := st) (by repeat' (first | exact StLe.refl _ | (refine StLe_cons (by simp [*]; done) ?_) | (refine StLe_fresh (by simp [*]; done) ?_))) ⟨rfl, rfl⟩
  · refine no (by rw [eok]; simp [h1]) ?_
    clear yes no eok
    refine H.podiumref57_Check.view hmix rfl rfl ?_
    repeat' (first 
     | (with_reducible refine Fresh.intro fun b hb => ?_) <;> (try simp -dsimp -implicitDefEqProofs [*] at hb)
     | (with_reducible refine Rets.xcall (c _) ?_)
     | (simp -dsimp -implicitDefEqProofs [*]))
    exact RetView.drop (st' := st) (by repeat' (first | exact StLe.refl _ | (refine StLe_cons (by simp [*]; done) ?_) | (refine StLe_fresh (by simp [*]; done) ?_))) ⟨rfl, rfl⟩
theorem rLook57_spec (r : Rc) (hr : r.Few) (g : Bool) (st : Store) : Rets P F.podiumref57_Look [.agg (r.enc false false), .bool g] st (.tuple [.agg ((lookR r g).1.enc false false), .int (lookR r g).2]) := by
  have c1 := rCheck57_spec r hr
  cases h : r.ok with
  | false =>
    rw [lookR_no (fun e => by rw [h] at e; cases e)]
    rw [h] at c1
    have c1' : ∀ st, Rets P F.podiumref57_Check [.agg (r.enc false false)] st (.int 570) := c1
    show Rets P F.podiumref57_Look [.agg (r.enc false false), .bool g] st (.tuple [.agg (Rc.zero.enc false false), .int 570])
    obtain ⟨X, hX⟩ : ∃ X, X = r.enc false false := ⟨_, rfl⟩
    have lE : X.length = 8 := by rw [hX]; rfl
    rw [← hX] at c1' ⊢
    have f2 := cells_sub lE
    clear hX c1 h hr
    refine H.podiumref57_Look.view hmix rfl rfl ?_
    repeat' (first 
     | (with_reducible refine Fresh.intro fun b hb => ?_) <;> (try simp -dsimp -implicitDefEqProofs [*] at hb)
     | (with_reducible refine Rets.xcall (c1' _) ?_)
     | (simp -dsimp -implicitDefEqProofs [*]))
    refine .le (zero_le false false _) ?_
    exact RetView.drop (st' := st) (by repeat' (first | exact StLe.refl _ | (refine StLe_cons (by simp [*]; done) ?_) | (refine StLe_fresh (by simp [*]; done) ?_))) ⟨rfl, rfl⟩
  | true =>
    rw [h] at c1
    have c1' : ∀ st, Rets P F.podiumref57_Check [.agg (r.enc false false)] st (.int 0) := c1
    clear c1
    by_cases hs : r.s = 0
    · rw [lookR_ok h hs]
      show Rets P F.podiumref57_Look [.agg (r.enc false false), .bool g] st (.tuple [.agg ((r.look g r.K).enc false false), .int 0])
      have c0 := rNeed_spec r.n r.w hr.n r.s1 false r.s2 false r.L1 r.L2 hr.l1 hr.l2
      have c : ∀ st, Rets P F.podiumref56_Need [.int r.n, .int r.w, .agg [.bool r.s1, intLst false r.L1, .bool r.s2, intLst false r.L2]] st (.tuple [.int r.K, .int r.E]) := c0
      have hk := Rc.K_le hr h
      have hak : r.a < r.K := by
        have h' := Rc.ok_iff.1 h
        omega
      obtain ⟨K, hK⟩ : ∃ K, K = r.K := ⟨_, rfl⟩
      obtain ⟨E, hE⟩ : ∃ K, K = r.E := ⟨_, rfl⟩
      rw [← hK] at hak hk
      rw [← hK, ← hE] at c
      rw [← hK]
      have cs := rState_spec (r.a + 1) K
      clear hK hE h hr c0
      obtain ⟨n, w, s1, L1, s2, L2, a, s⟩ := r
      simp only at hs hak cs c hk
      subst hs
      have x1 : IntKind.i64.wrap (a + 1) = a + 1 := wrap_in (by omega) (by omega)
      clear hk
      cases g with
      | false =>
        simp only [Rc.look, Rc.enc] at c1' ⊢
        clear cs x1
        refine H.podiumref57_Look.view hmix rfl rfl ?_
        repeat' (first 
         | (with_reducible refine Fresh.intro fun b hb => ?_) <;> (try simp -dsimp -implicitDefEqProofs [*] at hb)
         | (with_reducible refine Rets.xcall (c1' _) ?_)
         | (simp -dsimp -implicitDefEqProofs [*]))
        exact RetView.drop (st' := st) (by repeat' (first | exact StLe.refl _ | (refine StLe_cons (by simp [*]; done) ?_) | (refine StLe_fresh (by simp [*]; done) ?_))) ⟨rfl, rfl⟩
      | true =>
        have e : (if K ≤ a + 1 then (1 : Int) else 0) = if a + 1 = K then 1 else 0 := by split <;> split <;> omega
        simp only [Rc.look, Rc.enc, if_true] at c1' ⊢
        obtain ⟨v, hv⟩ : ∃ v : Int, v = if a + 1 = K then 1 else 0 := ⟨_, rfl⟩
        rw [e] at cs
        rw [← hv] at cs ⊢
        clear hv e hak
        refine H.podiumref57_Look.view hmix rfl rfl ?_
        repeat' (first 
         | (with_reducible refine Fresh.intro fun b hb => ?_) <;> (try simp -dsimp -implicitDefEqProofs [*] at hb)
         | (with_reducible refine Rets.xcall (c1' _) ?_)
         | (with_reducible refine Rets.xcall (c _) ?_)
         | (with_reducible refine Rets.xcall (cs _) ?_)
         | (simp -dsimp -implicitDefEqProofs [*]))
        exact RetView.drop (st' := st) (by repeat' (first | exact StLe.refl _ | (refine StLe_cons (by simp [*]; done) ?_) | (refine StLe_fresh (by simp [*]; done) ?_))) ⟨rfl, rfl⟩
    · rw [lookR_no (fun _ => hs)]
      show Rets P F.podiumref57_Look [.agg (r.enc false false), .bool g] st (.tuple [.agg (Rc.zero.enc false false), .int 570])
      obtain ⟨X, hX⟩ : ∃ X, X = r.enc false false := ⟨_, rfl⟩
      have lE : X.length = 8 := by rw [hX]; rfl
      have ls : ∀ h : 7 < X.length, X[7]'h = .int r.s := by subst hX; exact fun _ => rfl
      rw [← hX] at c1' ⊢
      have f2 := cells_sub lE
      clear hX h hr
      refine H.podiumref57_Look.view hmix rfl rfl ?_
      repeat' (first 
       | (with_reducible refine Fresh.intro fun b hb => ?_) <;> (try simp -dsimp -implicitDefEqProofs [*] at hb)
       | (with_reducible refine Rets.xcall (c1' _) ?_)
       | (simp -dsimp -implicitDefEqProofs [*]))
      refine .le (zero_le false false _) ?_
      exact RetView.drop (st' := st) (by repeat' (first | exact StLe.refl _ | (refine StLe_cons (by simp [*]; done) ?_) | (refine StLe_fresh (by simp [*]; done) ?_))) ⟨rfl, rfl⟩
end Go.Proofs.YtokkkmfbejgccaaGreat
/- The reference's Run. -/
namespace Go.Proofs.YtokkkmfbejgccaaGreat
open Go.Pv
set_option maxRecDepth 100000
set_option maxHeartbeats 16000000
theorem has37_spec (t : Bool) (O : List Int) (x : Int) (hO : O.length ≤ 1000000) (st : Store) : Rets P F.podiumref37_Has [intLst t O, .int x] st (.bool (decide (x ∈ O))) := by
  refine H.podiumref37_Has.pure hmix rfl rfl ?_
  obtain ⟨r, hr0⟩ : ∃ r, r = decide (x ∈ O) := ⟨_, rfl⟩
  rw [← hr0]
  have hr : Hid _ := ⟨hr0⟩
  clear hr0
  repeat' (simp -dsimp -implicitDefEqProofs [*])
  refine xloop_for (fun y : Nat => [(5, .int y), (4, .bool false), (0, intLst t O), (1, .int x)]) (fun _ => st) (fun y => y ≤ O.length ∧ ∀ j (h : j < O.length), j < y → O[j] ≠ x) (fun y => O.length - y) 0 ⟨Nat.zero_le _, fun j _ h => absurd h (Nat.not_lt_zero _)⟩ (by simp) (.refl _) ?_
  intro i ⟨hi, hp0⟩
  have hp : Hid _ := ⟨hp0⟩
  clear hp0
  by_cases hl : i < O.length
  · have x5 := wrap_succ (n := i) (by omega)
    by_cases he : O[i] = x
    · have er : r = true := by rw [hr.out, decide_eq_true_eq, ← he]; exact List.getElem_mem _
      clear hr
      subst er
      repeat' (simp -dsimp -implicitDefEqProofs [*])
    · have hp2 : Hid _ := ⟨fun j (h : j < O.length) (hj : j < i + 1) => by
        rcases Nat.lt_succ_iff_lt_or_eq.1 hj with h1 | h1
        · exact hp.out j h h1
        · subst h1; exact he⟩
      clear hr
      repeat' (simp -dsimp -implicitDefEqProofs [*])
      exact Next.intro (i + 1) ⟨hl, hp2.out⟩ (by omega) (by simp) (.refl _)
  · have er : r = false := by
      rw [hr.out, decide_eq_false_iff_not]
      intro hm
      obtain ⟨j, h, e⟩ := List.mem_iff_getElem.1 hm
      exact hp.out j h (by omega) e
    clear hr
    subst er
    repeat' (simp -dsimp -implicitDefEqProofs [*])
theorem rRun57_spec (r : Rc) (hr : r.Few) (t u : Bool) (O : List Int) (A : List Bool) (hO : O.length ≤ 1000) (st : Store) : Rets P F.podiumref57_Run [.agg (r.enc false false), intLst t O, boolLst u A] st (.tuple [.agg ((runR r O A).1.enc false false), .int (runR r O A).2.1, .int (runR r O A).2.2]) := by
  have c1 := rCheck57_spec r hr
  have lE : (r.enc false false).length = 8 := rfl
  have l0 : ∀ h : 0 < (r.enc false false).length, (r.enc false false)[0]'h = .int r.n := fun _ => rfl
  have f2 := cells_sub lE
  cases h : r.ok with
  | false =>
    have e : runR r O A = (Rc.zero, 0, 570) := by simp [runR, h]
    rw [e]
    rw [h] at c1
    have c1' : ∀ st, Rets P F.podiumref57_Check [.agg (r.enc false false)] st (.int 570) := c1
    clear c1 h e hr
    refine H.podiumref57_Run.view hmix rfl rfl ?_
    repeat' (first 
     | (with_reducible refine Fresh.intro fun b hb => ?_) <;> (try simp -dsimp -implicitDefEqProofs [*] at hb)
     | (with_reducible refine Rets.xcall (c1' _) ?_)
     | (simp -dsimp -implicitDefEqProofs [*]))
    refine .le (zero_le3 _ _) ?_
    exact RetView.drop (st' := st) (by repeat' (first | exact StLe.refl _ | (refine StLe_cons (by simp [*]; done) ?_) | (refine StLe_fresh (by simp [*]; done) ?_))) ⟨rfl, rfl⟩
  | true =>
    rw [h] at c1
    have c1' : ∀ st, Rets P F.podiumref57_Check [.agg (r.enc false false)] st (.int 0) := c1
    clear c1
    by_cases hA : (A.length : Int) = r.n
    · have kl := fun (q : Rc) (hq : q.ok = true) (hf : q.Few) (hs : q.s = 0) (b : Bool) (st : Store) => by
        have c := rLook57_spec q hf b st
        rw [lookR_ok hq hs] at c
        exact c
      have kb := Rc.K_le hr h
      refine H.podiumref57_Run.view hmix rfl rfl ?_
      have kR : Hid (runR r O A = if orderOk r.n O = false then (Rc.zero, 0, 1) else ((runL r.K (seqA O A) r).1, ((runL r.K (seqA O A) r).2 : Int), 0)) := ⟨by simp [runR, h, hA]⟩
      obtain ⟨Z, hZ⟩ : ∃ Z, Z = runR r O A := ⟨_, rfl⟩
      rw [← hZ]
      have kZ : Hid (Z = runR r O A) := ⟨hZ⟩
      obtain ⟨n, hn⟩ : ∃ n, n = r.n := ⟨_, rfl⟩
      have kn : Hid (n = r.n) := ⟨hn⟩
      rw [← hn] at l0 hA kb
      have kL : Hid _ := ⟨kl⟩
      have kh : Hid (r.ok = true ∧ r.Few) := ⟨h, hr⟩
      clear hZ hn kl h hr
      repeat' (first 
       | (with_reducible refine Fresh.intro fun b hb => ?_) <;> (try simp -dsimp -implicitDefEqProofs [*] at hb)
       | (with_reducible refine Rets.xcall (c1' _) ?_)
       | (simp -dsimp -implicitDefEqProofs [*]))
      revert b
      revert b
      intro p3 hp3 p6 hp6
      clear c1'
      refine xloop_for (fun y : Nat => [(9, .int y), (8, .int 0), (7, .int 0), (6, .ptr p6 0), (3, .ptr p3 0), (1, intLst t O), (2, boolLst u A)])
        (fun _ => (p6, .arr T.apiRecount [.int 0, .int 0, .bool false, .nil, .bool false, .nil, .int 0, .int 0]) :: (p3, .arr T.apiRecount (r.enc false false)) :: st)
        (fun y => y ≤ O.length ∧ Hid (orderOk n (O.take y) = true)) (fun y => O.length - y) 0 ⟨Nat.zero_le _, ⟨by simp [orderOk]⟩⟩ (by simp) (by simp) ?_
      rintro i ⟨hi, ho⟩
      by_cases hiO : i < O.length
      · have x5 := wrap_succ (n := i) (by omega)
        have hg : Hid (orderOk n (O.take (i + 1)) = true ↔ orderOk n (O.take i) = true ∧ 0 ≤ O[i] ∧ O[i] < n ∧ O[i] ∉ O.take i) := ⟨orderOk_step hiO⟩
        have hno : Hid (¬ (0 ≤ O[i] ∧ O[i] < n ∧ O[i] ∉ O.take i) → Z = (Rc.zero, 0, 1)) := ⟨fun hh => by
          rw [kZ.out, kR.out, ← kn.out, orderOk_no hiO hh]
          rfl⟩
        have ch : ∀ st, Rets P F.podiumref37_Has [.list false ((intRow O).take i) i, .int O[i]] st (.bool (decide (O[i] ∈ O.take i))) := fun st => by
          have c := has37_spec false (O.take i) O[i] (by rw [List.length_take]; omega) st
          unfold intLst at c
          have e1 : intRow (O.take i) = (intRow O).take i := by simp [intRow]
          have e2 : (O.take i).length = i := by rw [List.length_take]; omega
          rw [e1, e2] at c
          exact c
        clear kR kL kh
        by_cases h1 : O[i] < 0
        · have eZ := hno.out (fun hh => by omega)
          clear hno hg ch kZ
          subst eZ
          repeat' (first 
           | (with_reducible refine DrawLate.intro [] ?_)
           | (simp -dsimp -implicitDefEqProofs [*]))
          refine .le (zero_le3 _ _) ?_
          exact RetView.drop (st' := st) (by repeat' (first | exact StLe.refl _ | (refine StLe_cons (by simp [*]; done) ?_) | (refine StLe_fresh (by simp [*]; done) ?_))) ⟨rfl, rfl⟩
        · by_cases h2 : O[i] < n
          · have h2' : ¬ n ≤ O[i] := by omega
            cases h3 : decide (O[i] ∈ O.take i) with
            | true =>
              have eZ := hno.out (fun hh => hh.2.2 (of_decide_eq_true h3))
              rw [h3] at ch
              clear hno hg kZ h3
              subst eZ
              repeat' (first 
               | (with_reducible refine Rets.xcall (ch _) ?_)
               | (with_reducible refine DrawLate.intro [] ?_)
               | (simp -dsimp -implicitDefEqProofs [*]))
              refine .le (zero_le3 _ _) ?_
              exact RetView.drop (st' := st) (by repeat' (first | exact StLe.refl _ | (refine StLe_cons (by simp [*]; done) ?_) | (refine StLe_fresh (by simp [*]; done) ?_))) ⟨rfl, rfl⟩
            | false =>
              rw [h3] at ch
              have ho2 : Hid (orderOk n (O.take (i + 1)) = true) := ⟨hg.out.2 ⟨ho.out, by omega, h2, of_decide_eq_false h3⟩⟩
              clear hno hg h3 kZ
              repeat' (first 
               | (with_reducible refine Rets.xcall (ch _) ?_)
               | (with_reducible refine DrawLate.intro [] ?_)
               | (simp -dsimp -implicitDefEqProofs [*]))
              exact Next.intro (i + 1) ⟨hiO, ho2⟩ (by omega) (by simp) (by simp)
          · have eZ := hno.out (fun hh => h2 hh.2.1)
            have h2' : n ≤ O[i] := by omega
            clear hno hg ch kZ
            subst eZ
            repeat' (first 
             | (with_reducible refine DrawLate.intro [] ?_)
             | (simp -dsimp -implicitDefEqProofs [*]))
            refine .le (zero_le3 _ _) ?_
            exact RetView.drop (st' := st) (by repeat' (first | exact StLe.refl _ | (refine StLe_cons (by simp [*]; done) ?_) | (refine StLe_fresh (by simp [*]; done) ?_))) ⟨rfl, rfl⟩
      · have e : i = O.length := by omega
        subst e
        have ho2 := ho.out
        rw [List.take_length] at ho2
        have eZ : Z = ((runL r.K (seqA O A) r).1, ((runL r.K (seqA O A) r).2 : Int), 0) := by
          rw [kZ.out, kR.out, ← kn.out, ho2]
          rfl
        have lA : (seqA O A).length = O.length := by simp [seqA]
        have kl2 : Hid _ := ⟨eZ⟩
        have kO : Hid _ := ⟨ho2⟩
        clear eZ ho2 ho kR kZ
        repeat' (simp -dsimp -implicitDefEqProofs [*])
        refine xloop_for (fun y : Nat => [(10, .int y), (8, .int 0), (7, .int 0), (6, .ptr p6 0), (3, .ptr p3 0), (1, intLst t O), (2, boolLst u A)])
          (fun y => (p6, .arr T.apiRecount [.int 0, .int 0, .bool false, .nil, .bool false, .nil, .int 0, .int 0]) :: (p3, .arr T.apiRecount ((curL r.K (seqA O A) r y).enc false false)) :: st)
          (fun y => y ≤ O.length ∧ Hid ((∀ j, j < y → (curL r.K (seqA O A) r j).s = 0) ∧ (curL r.K (seqA O A) r y).ok = true ∧ (curL r.K (seqA O A) r y).Few ∧ (curL r.K (seqA O A) r y).K = r.K)) (fun y => O.length - y) 0
          ⟨Nat.zero_le _, ⟨fun j hj => absurd hj (Nat.not_lt_zero _), kh.out.1, kh.out.2, rfl⟩⟩ (by simp) (by simp [curL_zero]) ?_
        rintro i ⟨hi2, hy⟩
        obtain ⟨y1, y2, y3, y4⟩ := hy.out
        obtain ⟨q, hq⟩ : ∃ q, q = curL r.K (seqA O A) r i := ⟨_, rfl⟩
        rw [← hq] at y2 y3 y4 ⊢
        obtain ⟨Y, hY⟩ : ∃ Y, Y = q.enc false false := ⟨_, rfl⟩
        have lY : Y.length = 8 := by rw [hY]; rfl
        have g7 : ∀ h : 7 < Y.length, Y[7]'h = .int q.s := by subst hY; exact fun _ => rfl
        have fY := cells_sub lY
        by_cases hiO : i < O.length
        · have x5 := wrap_succ (n := i) (by omega)
          by_cases hs : q.s = 0
          · obtain ⟨o1, o2⟩ := orderOk_get kO.out i hiO
            obtain ⟨j, hj⟩ : ∃ j : Nat, O[i] = j := ⟨(O[i]).toNat, by omega⟩
            have hjA : j < A.length := by omega
            have eb : A[j] = (seqA O A)[i]'(by omega) := by
              simp [seqA, hj, List.getD, hjA]
            have cl := kL.out q y2 y3 hs A[j]
            have e1 : q.look A[j] q.K = curL r.K (seqA O A) r (i + 1) := by
              rw [curL_succ (by omega), ← hq, y4, eb]
            have hy2 : Hid ((∀ j, j < i + 1 → (curL r.K (seqA O A) r j).s = 0) ∧ (curL r.K (seqA O A) r (i + 1)).ok = true ∧ (curL r.K (seqA O A) r (i + 1)).Few ∧ (curL r.K (seqA O A) r (i + 1)).K = r.K) := ⟨by
              rw [← e1]
              refine ⟨fun j hj => ?_, look_ok y2 hs _, look_few y3 _ _, by rw [look_K]; exact y4⟩
              rcases Nat.lt_succ_iff_lt_or_eq.1 hj with h | h
              · exact y1 j h
              · rw [h, ← hq]; exact hs⟩
            rw [e1] at cl
            have cl2 : ∀ st, Rets P F.podiumref57_Look [.agg Y, .bool A[j]] st (.tuple [.agg ((curL r.K (seqA O A) r (i + 1)).enc false false), .int 0]) := by rw [hY]; exact cl
            obtain ⟨W, hW⟩ : ∃ W, W = (curL r.K (seqA O A) r (i + 1)).enc false false := ⟨_, rfl⟩
            have lW : W.length = 8 := by rw [hW]; rfl
            rw [← hW] at cl2
            have aW : setCells Y 0 W = W := setCells_all W Y (by omega)
            have kW : Hid _ := ⟨hW⟩
            rw [← hY]
            rw [hs] at g7
            clear hW cl e1 eb hy y1 y2 y3 y4 hq hY kL kh kl2 kO hs kn kb lE f2 l0 lA
            repeat' (first 
             | (with_reducible refine Rets.xcall (cl2 _) ?_)
             | (with_reducible refine DrawLate.intro [] ?_)
             | ((with_reducible refine and_keep ?_ fun hk => ?_); omega)
             | (simp -dsimp -implicitDefEqProofs [*]))
            exact Next.intro (i + 1) ⟨hiO, hy2⟩ (by omega) (by simp) (by simp [kW.out])
          · have er := runL_at (K := r.K) (l := seqA O A) (r := r) (i := i) (by omega) y1 (.inr (by rw [← hq]; exact hs))
            have eZ := kl2.out
            rw [er, ← hq] at eZ
            subst eZ
            have aY : setCells [.int 0, .int 0, .bool false, .nil, .bool false, .nil, .int 0, .int 0] 0 Y = Y := setCells_all Y _ lY
            rw [← hY]
            clear hy y1 y2 y3 y4 hq hY kL kh kl2 kO kn kb lE f2 l0 er
            repeat' (simp -dsimp -implicitDefEqProofs [*])
            exact RetView.drop (st' := st) (by repeat' (first | exact StLe.refl _ | (refine StLe_cons (by simp [*]; done) ?_) | (refine StLe_fresh (by simp [*]; done) ?_))) ⟨rfl, rfl⟩
        · have e : i = O.length := by omega
          have er := runL_at (K := r.K) (l := seqA O A) (r := r) (i := i) (by omega) y1 (.inl (by omega))
          have eZ := kl2.out
          rw [er, ← hq] at eZ
          subst eZ
          have aY : setCells [.int 0, .int 0, .bool false, .nil, .bool false, .nil, .int 0, .int 0] 0 Y = Y := setCells_all Y _ lY
          rw [← hY]
          clear hy y1 y2 y3 y4 hq hY kL kh kl2 kO kn kb lE f2 l0 er
          subst e
          repeat' (simp -dsimp -implicitDefEqProofs [*])
          exact RetView.drop (st' := st) (by repeat' (first | exact StLe.refl _ | (refine StLe_cons (by simp [*]; done) ?_) | (refine StLe_fresh (by simp [*]; done) ?_))) ⟨rfl, rfl⟩
    · have e : runR r O A = (Rc.zero, 0, 1) := by simp [runR, h, hA]
      rw [e]
      clear h e hr
      refine H.podiumref57_Run.view hmix rfl rfl ?_
      repeat' (first 
       | (with_reducible refine Fresh.intro fun b hb => ?_) <;> (try simp -dsimp -implicitDefEqProofs [*] at hb)
       | (with_reducible refine Rets.xcall (c1' _) ?_)
       | (simp -dsimp -implicitDefEqProofs [*]))
      refine .le (zero_le3 _ _) ?_
      exact RetView.drop (st' := st) (by repeat' (first | exact StLe.refl _ | (refine StLe_cons (by simp [*]; done) ?_) | (refine StLe_fresh (by simp [*]; done) ?_))) ⟨rfl, rfl⟩
end Go.Proofs.YtokkkmfbejgccaaGreat
