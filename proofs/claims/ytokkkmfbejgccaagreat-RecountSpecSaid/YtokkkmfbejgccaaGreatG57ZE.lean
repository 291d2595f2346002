/- Package recount: Run. -/
import Derived.Test.YtokkkmfbejgccaaGreatG57ZB
namespace Go.Proofs.YtokkkmfbejgccaaGreat
open Go.Pv
set_option maxRecDepth 100000
set_option maxHeartbeats 16000000
/-- Looks, one after the other. -/
def runL (K : Int) : List Bool → Rc → Rc × Nat
  | [], r => (r, 0)
  | b :: l, r => if r.s = 0 then ((runL K l (r.look b K)).1, (runL K l (r.look b K)).2 + 1) else (r, 0)
def curL (K : Int) (l : List Bool) (r : Rc) (i : Nat) : Rc := (l.take i).foldl (fun r b => r.look b K) r
theorem curL_zero (K : Int) (l : List Bool) (r : Rc) : curL K l r 0 = r := rfl
theorem curL_succ {K : Int} {l : List Bool} {r : Rc} {i : Nat} (h : i < l.length) : curL K l r (i + 1) = (curL K l r i).look l[i] K := by
  unfold curL
  rw [List.take_succ_eq_append_getElem h, List.foldl_append]
  rfl
theorem runL_at {K : Int} : ∀ {l : List Bool} {r : Rc} {i : Nat}, i ≤ l.length → (∀ j, j < i → (curL K l r j).s = 0) → (i = l.length ∨ (curL K l r i).s ≠ 0) → runL K l r = (curL K l r i, i)
  | [], r, i, h1, h2, h3 => by
    have : i = 0 := by simpa using h1
    subst this; rfl
  | b :: l, r, 0, h1, h2, h3 => by
    rcases h3 with h3 | h3
    · simp at h3
    · have h3 : r.s ≠ 0 := h3
      simp only [runL, if_neg h3]; rfl
  | b :: l, r, i + 1, h1, h2, h3 => by
    have h0 : r.s = 0 := h2 0 (by omega)
    have e : ∀ j, curL K (b :: l) r (j + 1) = curL K l (r.look b K) j := fun j => rfl
    have ih := runL_at (K := K) (l := l) (r := r.look b K) (i := i) (by simpa using h1) (fun j hj => by rw [← e]; exact h2 (j + 1) (by omega)) (by
      rcases h3 with h3 | h3
      · left; simpa using h3
      · right; rw [← e]; exact h3)
    simp only [runL, if_pos h0, ih, e]
/-- Is a list an order of some of n sheets? -/
def orderOk (n : Int) (O : List Int) : Bool := O.all (fun x => decide (0 ≤ x) && decide (x < n)) && decide O.Nodup
def seqA (O : List Int) (A : List Bool) : List Bool := O.map fun x => A.getD x.toNat false
/-- What Run gives. -/
def runR (r : Rc) (O : List Int) (A : List Bool) : Rc × Int × Int :=
  if r.ok = false then (Rc.zero, 0, 570) else if (A.length : Int) ≠ r.n then (Rc.zero, 0, 1) else if orderOk r.n O = false then (Rc.zero, 0, 1) else ((runL r.K (seqA O A) r).1, (runL r.K (seqA O A) r).2, 0)
theorem Rc.K_le {r : Rc} (hr : r.Few) (h : r.ok = true) : 0 ≤ r.K ∧ r.K ≤ 40 ∧ 0 ≤ r.n ∧ r.n ≤ 40 ∧ r.K ≤ r.n ∧ 0 ≤ r.a ∧ r.a ≤ r.K := by
  unfold Rc.ok at h
  simp only [Bool.and_eq_true, Bool.or_eq_true, decide_eq_true_eq] at h
  obtain ⟨⟨hE, ha⟩, hs⟩ := h
  have hE' := hE
  unfold Rc.E needE at hE
  split at hE
  · cases hE
  · rename_i hw
    split at hE
    · cases hE
    · split at hE
      · rename_i hq
        simp only [wi, Bool.and_eq_false_iff, decide_eq_false_iff_not, not_or, Decidable.not_not] at hw
        obtain ⟨⟨h1, h2⟩, h3, h4⟩ := hw
        have hn := hr.n
        have eK : r.K = (needR r.n.toNat r.w.toNat (ratV r.s1 r.L1 r.L2) : Nat) := by
          have : needE r.n r.w r.s1 r.L1 r.s2 r.L2 = 0 := hE'
          unfold Rc.K needK
          rw [if_pos this]
        have := needR_spec (needR_last (n := r.n.toNat) (w := r.w.toNat) (q := ratV r.s1 r.L1 r.L2) (by omega) (by omega) hq.1)
        omega
      · cases hE
theorem run_le (t1 t2 : Bool) (r : Rc) (n e : Int) : PLe (.tuple [.agg (r.enc t1 t2), .int n, .int e]) (.tuple [.agg (r.enc false false), .int n, .int e]) :=
  PLe.tuples ⟨PLe.aggs ⟨.refl _, .refl _, .refl _, PLe.loose, .refl _, PLe.loose, .refl _, .refl _, trivial⟩, .refl _, .refl _, trivial⟩
theorem zero_le3 (n e : Int) : PLe (.tuple [.agg [.int 0, .int 0, .bool false, .nil, .bool false, .nil, .int 0, .int 0], .int n, .int e]) (.tuple [.agg (Rc.zero.enc false false), .int n, .int e]) :=
  PLe.tuples ⟨PLe.aggs ⟨.refl _, .refl _, .refl _, PLe.nil0, .refl _, PLe.nil0, .refl _, .refl _, trivial⟩, .refl _, .refl _, trivial⟩
theorem orderOk_step {n : Int} {O : List Int} {i : Nat} (h : i < O.length) : orderOk n (O.take (i + 1)) = true ↔ orderOk n (O.take i) = true ∧ 0 ≤ O[i] ∧ O[i] < n ∧ O[i] ∉ O.take i := by
  rw [List.take_succ_eq_append_getElem h]
  unfold orderOk
  simp only [Bool.and_eq_true, decide_eq_true_eq, List.all_append, List.all_cons, List.all_nil, Bool.and_true, List.nodup_append, List.mem_singleton, List.nodup_cons, List.not_mem_nil, not_false_eq_true, List.nodup_nil, and_true, true_and, forall_eq]
  constructor
  · rintro ⟨⟨a, b, c⟩, d, e⟩
    exact ⟨⟨a, d⟩, b, c, fun hm => e _ hm rfl⟩
  · rintro ⟨⟨a, d⟩, b, c, e⟩
    exact ⟨⟨a, b, c⟩, d, fun x hx hxe => e (hxe ▸ hx)⟩
theorem orderOk_take {n : Int} {O : List Int} (i : Nat) (h : orderOk n O = true) : orderOk n (O.take i) = true := by
  unfold orderOk at h ⊢
  simp only [Bool.and_eq_true, decide_eq_true_eq, List.all_eq_true] at h ⊢
  exact ⟨fun x hx => h.1 x (List.mem_of_mem_take hx), h.2.sublist (List.take_sublist _ _)⟩
theorem orderOk_no {n : Int} {O : List Int} {i : Nat} (h : i < O.length) (hn : ¬ (0 ≤ O[i] ∧ O[i] < n ∧ O[i] ∉ O.take i)) : orderOk n O = false := by
  cases e : orderOk n O with
  | false => rfl
  | true => exact absurd ((orderOk_step h).1 (orderOk_take (i + 1) e)).2 hn
theorem orderOk_get {n : Int} {O : List Int} (h : orderOk n O = true) (i : Nat) (hi : i < O.length) : 0 ≤ O[i] ∧ O[i] < n := by
  have := ((orderOk_step hi).1 (orderOk_take (i + 1) h)).2
  exact ⟨this.1, this.2.1⟩
/-- Which sheets of an order were met. -/
def MetOk (O : List Int) (N : Nat) (M : List Bool) (i : Nat) : Prop := M.length = N ∧ ∀ j (h : j < M.length), M[j] = decide ((j : Int) ∈ O.take i)
theorem MetOk.zero (O : List Int) (N : Nat) : MetOk O N (List.replicate N false) 0 := ⟨by simp, fun j h => by simp⟩
theorem MetOk.step {O : List Int} {N : Nat} {M : List Bool} {i j : Nat} (h : MetOk O N M i) (hi : i < O.length) (hj : O[i] = j) : MetOk O N (M.set j true) (i + 1) := by
  refine ⟨by simp [h.1], fun k hk => ?_⟩
  rw [List.take_succ_eq_append_getElem hi]
  simp only [List.length_set] at hk
  rw [List.getElem_set]
  split
  · rename_i e; subst e; simp [hj]
  · rename_i e
    rw [h.2 k hk]
    congr 1
    simp only [List.mem_append, List.mem_singleton, hj, eq_iff_iff]
    exact ⟨.inl, fun h => h.resolve_right fun e2 => e (by omega)⟩
theorem fold_a (K : Int) : ∀ (l : List Bool) (r : Rc), r.a ≤ (l.foldl (fun r b => r.look b K) r).a ∧ (l.foldl (fun r b => r.look b K) r).a ≤ r.a + l.length
  | [], r => by simp
  | b :: l, r => by
    have := fold_a K l (r.look b K)
    have h2 : r.a ≤ (r.look b K).a ∧ (r.look b K).a ≤ r.a + 1 := by cases b <;> simp [Rc.look] <;> omega
    simp only [List.foldl_cons, List.length_cons]
    omega
theorem curL_a (K : Int) (l : List Bool) (r : Rc) (i : Nat) : r.a ≤ (curL K l r i).a ∧ (curL K l r i).a ≤ r.a + l.length := by
  have := fold_a K (l.take i) r
  have h2 : (l.take i).length ≤ l.length := by rw [List.length_take]; exact Nat.min_le_right _ _
  unfold curL
  omega
theorem StLe_over {st st' : Store} {b : Nat} {o : PObj} (hn : snew st b) (h : StLe st st') : StLe st ((b, o) :: st') := fun c x hx => by
  have hc : c ≠ b := fun e => by subst e; rw [snew_get hn] at hx; cases hx
  have hc2 : ¬ b = c := fun e => hc e.symm
  simp only [sget, hc2, if_false]
  exact h c x hx
theorem run_spec (r : Rc) (hr : r.Few) (t1 t2 t u : Bool) (O : List Int) (A : List Bool) (hO : O.length ≤ 1000) (st : Store) : Rets P F.recount_Run [.agg (r.enc t1 t2), intLst t O, boolLst u A] st (.tuple [.agg ((runR r O A).1.enc false false), .int (runR r O A).2.1, .int (runR r O A).2.2]) := by
  have c := right_spec r hr t1 t2
  have lE : (r.enc t1 t2).length = 8 := rfl
  have l0 : ∀ h : 0 < (r.enc t1 t2).length, (r.enc t1 t2)[0]'h = .int r.n := fun _ => rfl
  cases h : r.ok with
  | false =>
    have e : runR r O A = (Rc.zero, 0, 570) := by simp [runR, h]
    rw [e]
    show Rets P F.recount_Run [.agg (r.enc t1 t2), intLst t O, boolLst u A] st (.tuple [.agg (Rc.zero.enc false false), .int 0, .int 570])
    have c1 := fun st => (c st).2 h
    clear c h e
    obtain ⟨X, hX⟩ : ∃ X, X = r.enc t1 t2 := ⟨_, rfl⟩
    rw [← hX] at c1 lE ⊢
    have f2 := cells_sub lE
    clear hX l0
    refine H.recount_Run.view hmix rfl rfl ?_
    repeat' (first 
     | (with_reducible refine Fresh.intro fun b hb => ?_) <;> (try simp -dsimp -implicitDefEqProofs [*] at hb)
     | (with_reducible refine Panics.xcall (c1 _) ?_)
     | (with_reducible refine Defs.xdef (ccaught_top _ _ _ _) ?_)
     | (simp -dsimp -implicitDefEqProofs [H.recount_caught.enters, *]))
    repeat' (simp -dsimp -implicitDefEqProofs [epick, *])
    refine .le (zero_le3 _ _) ?_
    exact RetView.drop (st' := st) (by repeat' (first | exact StLe.refl _ | (refine StLe_cons (by simp [*]; done) ?_) | (refine StLe_fresh (by simp [*]; done) ?_))) ⟨rfl, rfl⟩
  | true =>
    have c1 := fun st => (c st).1 h
    obtain ⟨k0, k1, n0, n1, kn, a0, a1⟩ := Rc.K_le hr h
    by_cases hA : (A.length : Int) = r.n
    · obtain ⟨N, hN⟩ : ∃ N : Nat, r.n = N := ⟨r.n.toNat, by omega⟩
      have hAN : A.length = N := by omega
      have hN2 : N ≤ 40 := by omega
      have rle : ∀ (R : Rc) n e, PLe (.tuple [.agg (R.enc t1 t2), .int n, .int e]) (.tuple [.agg (R.enc false false), .int n, .int e]) := fun R n e => run_le t1 t2 R n e
      obtain ⟨K, hK⟩ : ∃ K, K = r.K := ⟨_, rfl⟩
      obtain ⟨Z, hZ⟩ : ∃ Z, Z = runR r O A := ⟨_, rfl⟩
      have kz : Hid (orderOk N O = false → Z = (Rc.zero, 0, 1)) := ⟨fun e => by rw [hZ]; simp [runR, h, hN, hAN, e]⟩
      have ko : Hid (orderOk N O = true → Z = ((runL K (seqA O A) r).1, ((runL K (seqA O A) r).2 : Int), 0)) := ⟨fun e => by rw [hZ, hK]; simp [runR, h, hN, hAN, e]⟩
      rw [← hZ]
      rw [← hK] at c1 k0 k1 kn a1
      rw [hN] at l0
      have f2 := cells_sub lE
      obtain ⟨X, eX⟩ : ∃ X, X = r.enc t1 t2 := ⟨_, rfl⟩
      rw [← eX] at c1 lE l0 f2 ⊢
      have hX : Hid (X = r.enc t1 t2) := ⟨eX⟩
      have kr : Hid (0 ≤ r.a ∧ r.a ≤ K ∧ 0 ≤ K ∧ K ≤ 40) := ⟨by omega⟩
      subst hAN
      clear c h hN hZ hK hA kn a0 a1 n0 n1 eX hr k0 k1
      refine H.recount_Run.view hmix rfl rfl ?_
      repeat' (first 
       | (with_reducible refine Fresh.intro fun b hb => ?_) <;> (try simp -dsimp -implicitDefEqProofs [*] at hb)
       | (with_reducible refine Rets.xcall (c1 _) ?_)
       | (with_reducible refine Rets.xcall (cneed_ok _ _) ?_)
       | ((with_reducible refine and_keep ?_ fun hk => ?_); omega)
       | (simp -dsimp -implicitDefEqProofs [H.recount_caught.enters, *]))
      revert b
      revert b
      revert b
      revert b
      revert b
      revert b
      intro p3 hp3 p6 hp6 p7 hp7 p8 hp8 p9 hp9 met hmet
      refine xloop_for (fun y : Nat × List Bool => [(27, .int y.1), (26, .int O.length), (25, intLst t O), (10, .own met 0 A.length A.length), (9, .ptr p9 0), (8, .ptr p8 0), (7, .ptr p7 0), (6, .ptr p6 0), (3, .ptr p3 0), (0, .agg X), (1, intLst t O), (2, boolLst u A)])
        (fun y => (met, .arr T.bool (boolRow y.2)) :: (p9, .arr T.int [.val (.int .i64 K)]) :: (p8, .arr T.apiErrno [.int 0]) :: (p7, .arr T.int [.int 0]) :: (p6, .arr T.apiRecount [.int 0, .int 0, .bool false, .nil, .bool false, .nil, .int 0, .int 0]) :: (p3, .arr T.apiRecount X) :: st)
        (fun y => y.1 ≤ O.length ∧ y.2.length = A.length ∧ Hid (MetOk O A.length y.2 y.1 ∧ orderOk A.length (O.take y.1) = true)) (fun y => O.length - y.1) (0, List.replicate A.length false) ⟨Nat.zero_le _, by simp, ⟨MetOk.zero _ _, by simp [orderOk]⟩⟩ (by simp) (by simp only [boolRow_rep]; exact .refl _) ?_
      rintro ⟨i, M⟩ ⟨hi, hM, hI⟩
      simp only at hi hM hI
      by_cases hil : i < O.length
      · have x5 := wrap_succ (n := i) (by omega)
        have kno : Hid (¬ (0 ≤ O[i] ∧ O[i] < (A.length : Int) ∧ O[i] ∉ O.take i) → Z = (Rc.zero, 0, 1)) := ⟨fun h => kz.out (orderOk_no hil h)⟩
        have kyes : Hid ((0 ≤ O[i] ∧ O[i] < (A.length : Int) ∧ O[i] ∉ O.take i) → orderOk A.length (O.take (i + 1)) = true) := ⟨fun h => (orderOk_step hil).2 ⟨hI.out.2, h⟩⟩
        clear kz ko
        by_cases c0 : 0 ≤ O[i]
        · obtain ⟨j, hj⟩ : ∃ j : Nat, O[i] = j := ⟨(O[i]).toNat, by omega⟩
          by_cases c2 : j < A.length
          · have hjM : j < M.length := by omega
            have hm := hI.out.1.2 j hjM
            have kst : Hid _ := ⟨hI.out.1.step hil hj⟩
            by_cases c3 : (j : Int) ∈ O.take i
            · have e : Z = (Rc.zero, 0, 1) := kno.out (fun h => h.2.2 (by rw [hj]; exact c3))
              subst e
              rw [decide_eq_true c3] at hm
              clear kno kyes kst hI c3
              repeat' (first 
               | (with_reducible refine Panics.xcall (cneed_no _ _) ?_)
               | (simp -dsimp -implicitDefEqProofs [*]))
              refine Defs.xdef (ccaught_pan p8 1 0 _ (by simp [*])) ?_
              repeat' (simp -dsimp -implicitDefEqProofs [epick, *])
              refine .le (zero_le3 _ _) ?_
              exact RetView.drop (st' := st) (by repeat' (first | exact StLe.refl _ | (refine StLe_cons (by simp [*]; done) ?_) | (refine StLe_fresh (by simp [*]; done) ?_))) ⟨rfl, rfl⟩
            · have ky := kyes.out ⟨c0, by omega, by rw [hj]; exact c3⟩
              have kI : Hid _ := ⟨And.intro kst.out ky⟩
              rw [decide_eq_false c3] at hm
              clear kno kyes kst hI c3 ky
              repeat' (first 
               | (with_reducible refine Rets.xcall (cneed_ok _ _) ?_)
               | ((with_reducible refine and_keep ?_ fun hk => ?_); omega)
               | (simp -dsimp -implicitDefEqProofs [*]))
              exact Next.intro (i + 1, M.set j true) ⟨by simp only; omega, by simp only [List.length_set]; exact hM, kI⟩ (by simp only; omega) (by simp) (by simp only [← boolRow_set]; exact .refl _)
          · have e : Z = (Rc.zero, 0, 1) := kno.out (fun h => c2 (by omega))
            subst e
            clear kno kyes hI
            repeat' (first 
             | (with_reducible refine Panics.xcall (cneed_no _ _) ?_)
             | (simp -dsimp -implicitDefEqProofs [*]))
            refine Defs.xdef (ccaught_pan p8 1 0 _ (by simp [*])) ?_
            repeat' (simp -dsimp -implicitDefEqProofs [epick, *])
            refine .le (zero_le3 _ _) ?_
            exact RetView.drop (st' := st) (by repeat' (first | exact StLe.refl _ | (refine StLe_cons (by simp [*]; done) ?_) | (refine StLe_fresh (by simp [*]; done) ?_))) ⟨rfl, rfl⟩
        · have e : Z = (Rc.zero, 0, 1) := kno.out (fun h => c0 h.1)
          subst e
          clear kno kyes hI
          repeat' (first 
           | (with_reducible refine Panics.xcall (cneed_no _ _) ?_)
           | (simp -dsimp -implicitDefEqProofs [*]))
          refine Defs.xdef (ccaught_pan p8 1 0 _ (by simp [*])) ?_
          repeat' (simp -dsimp -implicitDefEqProofs [epick, *])
          refine .le (zero_le3 _ _) ?_
          exact RetView.drop (st' := st) (by repeat' (first | exact StLe.refl _ | (refine StLe_cons (by simp [*]; done) ?_) | (refine StLe_fresh (by simp [*]; done) ?_))) ⟨rfl, rfl⟩
      · have e : i = O.length := by omega
        subst e
        have hO2 : orderOk A.length O = true := by have := hI.out.2; rwa [List.take_length] at this
        have eZ : Hid _ := ⟨ko.out hO2⟩
        have kg : Hid _ := ⟨orderOk_get hO2⟩
        clear kz ko hI hO2
        have hent := H.recount_sheets_1.enters
        repeat' (first 
         | (with_reducible refine Rets.xcall (sheets_spec _ _ _ _ _) ?_)
         | (simp -dsimp -implicitDefEqProofs [*]))
        refine xrange_func hent fun key hkey lp hlp => ?_
        simp -dsimp -implicitDefEqProofs [*] at hlp
        have sL : (seqA O A).length = O.length := by simp [seqA]
        have sG : Hid (∀ i (h : i < O.length), (seqA O A)[i]'(by rw [sL]; exact h) = A.getD (O.getD i 0).toNat false) := ⟨fun i h => by simp [seqA, h]⟩
        have aB := fun i => curL_a K (seqA O A) r i
        rw [sL] at aB
        have aB : Hid _ := ⟨aB⟩
        have sL : Hid _ := ⟨sL⟩
        have eX := hX.out
        subst eX
        clear hX
        obtain ⟨W, hW⟩ : ∃ W, W = seqA O A := ⟨_, rfl⟩
        obtain ⟨c, hc⟩ : ∃ c, c = curL K W r := ⟨_, rfl⟩
        have kE : Hid (∀ n, n ≤ O.length → (∀ j, j < n → (c j).s = 0) → (n = O.length ∨ (c n).s ≠ 0) → Z = (c n, (n : Int), 0)) := ⟨fun n h1 h2 h3 => by
          rw [eZ.out, ← hW]
          rw [hc] at h2 h3 ⊢
          rw [runL_at (i := n) (by rw [hW, sL.out]; exact h1) h2 (by rw [hW, sL.out, ← hW]; exact h3)]⟩
        clear eZ
        refine xcall_post (sheets1_gives t u O A (by omega) (by omega) kg.out (Option Unit × Rc × Nat) (fun z => (lp, .loop key _ (lsE z.1) (lpE 2 z.1)) :: (met, .arr T.bool (boolRow M)) :: (p9, .arr T.int [.val (.int .i64 K)]) :: (p8, .arr T.apiErrno [.int 0]) :: (p7, .arr T.int [.int z.2.2]) :: (p6, .arr T.apiRecount [.int 0, .int 0, .bool false, .nil, .bool false, .nil, .int 0, .int 0]) :: (p3, .arr T.apiRecount (z.2.1.enc t1 t2)) :: st)
          (fun i z => z.1 = none ∧ z.2.2 = i ∧ Hid (z.2.1 = c i ∧ ∀ j, j < i → (c j).s = 0)) (fun z => z.1 = some () ∧ Hid (z.2.2 < O.length ∧ z.2.1 = c z.2.2 ∧ (c z.2.2).s ≠ 0 ∧ ∀ j, j < z.2.2 → (c j).s = 0)) lp ?_ (none, r, 0) ⟨rfl, rfl, ⟨by rw [hc]; rfl, fun j hj => absurd hj (by omega)⟩⟩) ?_
        · rintro i ⟨o, R, n⟩ ⟨ho, hn, hI⟩ hil
          simp only at ho hn hI
          subst ho; subst hn
          simp only [lsE_none, lpE_none]
          have lE : (R.enc t1 t2).length = 8 := rfl
          have ls : ∀ h : 7 < (R.enc t1 t2).length, (R.enc t1 t2)[7]'h = .int R.s := fun _ => rfl
          have f2 := cells_sub lE
          have x5 := wrap_succ (n := n) (by omega)
          refine pround_walkS hmix hkey (by simp [*]; rfl) rfl ?_
          clear hkey hent
          by_cases hs : R.s = 0
          · have kL : Hid (∀ g, g = A.getD (O.getD n 0).toNat false → R.look g K = c (n + 1) ∧ ∀ j, j < n + 1 → (c j).s = 0) := ⟨fun g hg => by
              have e0 := hI.out.1
              refine ⟨?_, fun j hj => ?_⟩
              · have := curL_succ (K := K) (l := W) (r := r) (i := n) (by rw [hW, sL.out]; exact hil)
                rw [← hc, ← e0] at this
                rw [this, hg]
                congr 1
                subst hW
                exact (sG.out n hil).symm
              · by_cases e : j = n
                · rw [e, ← e0]; exact hs
                · exact hI.out.2 j (by omega)⟩
            have ha : Hid (∀ g p st, Does P (if g then F.recount_looks_2 else F.recount_looks_1) [.ptr p 0, .int K] ((p, .arr T.apiRecount (R.enc t1 t2)) :: st) (.tuple []) ((p, .arr T.apiRecount ((R.look g K).enc t1 t2)) :: st)) := ⟨fun g p st => act_spec R (by
              have := aB.out n
              rw [← hW, ← hc, ← hI.out.1] at this
              have := kr.out
              omega) t1 t2 g K p st⟩
            rw [hs] at ls
            clear hI aB sG sL kg kr kE
            clear hc
            obtain ⟨g, hg⟩ : ∃ g, g = A.getD (O.getD n 0).toNat false := ⟨_, rfl⟩
            have kg := kL.out g hg
            rw [← hg]
            have kg : Hid _ := ⟨kg⟩
            have ha := ha.out g
            clear hg kL
            obtain ⟨X, hX⟩ : ∃ X, X = R.enc t1 t2 := ⟨_, rfl⟩
            rw [← hX] at lE ls f2 ha ⊢
            clear hX
            have lY : ((R.look g K).enc t1 t2).length = 8 := rfl
            obtain ⟨Y, hY⟩ : ∃ Y, Y = (R.look g K).enc t1 t2 := ⟨_, rfl⟩
            rw [← hY] at ha lY
            have eY : Hid (Y = (R.look g K).enc t1 t2) := ⟨hY⟩
            clear hY
            have f3 := cells_sub lY
            cases g with
            | false =>
              have ha : ∀ p st, Does P F.recount_looks_1 [.ptr p 0, .int K] ((p, .arr T.apiRecount X) :: st) (.tuple []) ((p, .arr T.apiRecount Y) :: st) := ha
              have eP : actP false = .func (.func F.recount_looks_1) [] [] := rfl
              rw [eP]
              clear eP
              repeat' (first 
               | (with_reducible refine Fresh.intro fun b hb => ?_) <;> (try simp -dsimp -implicitDefEqProofs [*] at hb)
               | (simp -dsimp -implicitDefEqProofs [*]))
              refine Does.xcall (Does.le (ha p3 _) (StLe_cons (by simp [*]) (.refl _))) ?_
              repeat' (simp -dsimp -implicitDefEqProofs [*])
              refine ⟨_, ?_, none, R.look false K, n + 1, rfl, rfl, rfl, kg⟩
              rw [← eY.out]
              repeat' (first | exact StLe.refl _ | (refine StLe_cons (by simp [*]; done) ?_))
              refine StLe_over (by simp [*]) ?_
              exact (by repeat' (first | exact StLe.refl _ | (refine StLe_cons (by simp [*]; done) ?_) | (refine StLe_fresh (by simp [*]; done) ?_)))
            | true =>
              have ha : ∀ p st, Does P F.recount_looks_2 [.ptr p 0, .int K] ((p, .arr T.apiRecount X) :: st) (.tuple []) ((p, .arr T.apiRecount Y) :: st) := ha
              have eP : actP true = .func (.func F.recount_looks_2) [] [] := rfl
              rw [eP]
              clear eP
              repeat' (first 
               | (with_reducible refine Fresh.intro fun b hb => ?_) <;> (try simp -dsimp -implicitDefEqProofs [*] at hb)
               | (simp -dsimp -implicitDefEqProofs [*]))
              refine Does.xcall (Does.le (ha p3 _) (StLe_cons (by simp [*]) (.refl _))) ?_
              repeat' (simp -dsimp -implicitDefEqProofs [*])
              refine ⟨_, ?_, none, R.look true K, n + 1, rfl, rfl, rfl, kg⟩
              rw [← eY.out]
              repeat' (first | exact StLe.refl _ | (refine StLe_cons (by simp [*]; done) ?_))
              refine StLe_over (by simp [*]) ?_
              exact (by repeat' (first | exact StLe.refl _ | (refine StLe_cons (by simp [*]; done) ?_) | (refine StLe_fresh (by simp [*]; done) ?_)))
          · have kF : Hid (n < O.length ∧ R = c n ∧ (c n).s ≠ 0 ∧ ∀ j, j < n → (c j).s = 0) := ⟨hil, hI.out.1, by rw [← hI.out.1]; exact hs, hI.out.2⟩
            clear hI aB sG sL kg kr hil kE
            clear hc
            obtain ⟨X, hX⟩ : ∃ X, X = R.enc t1 t2 := ⟨_, rfl⟩
            rw [← hX] at lE ls f2 ⊢
            have eX : Hid (X = R.enc t1 t2) := ⟨hX⟩
            clear hX
            repeat' (first 
             | (with_reducible refine Fresh.intro fun b hb => ?_) <;> (try simp -dsimp -implicitDefEqProofs [*] at hb)
             | (simp -dsimp -implicitDefEqProofs [*]))
            refine ⟨_, ?_, some (), R, n, rfl, rfl, kF⟩
            rw [← eX.out]
            exact (by repeat' (first | exact StLe.refl _ | (refine StLe_cons (by simp [*]; done) ?_) | (refine StLe_fresh (by simp [*]; done) ?_)))
        · rintro e st' ⟨rfl, ⟨o, R, n⟩, rfl, ⟨ho, hn, hI⟩ | ⟨ho, hI⟩⟩
          · simp only at ho hn hI
            subst ho; subst hn
            have e : Z = (R, (O.length : Int), 0) := by rw [hI.out.1]; exact kE.out _ (Nat.le_refl _) hI.out.2 (.inl rfl)
            simp only [lsE_none, lpE_none]
            have lE : (R.enc t1 t2).length = 8 := rfl
            have f2 := cells_sub lE
            have f3 := cells_all (c := [.int 0, .int 0, .bool false, .nil, .bool false, .nil, .int 0, .int 0]) (V := R.enc t1 t2) rfl
            clear hkey hent aB sG sL kg kr kE hI hc
            obtain ⟨Y, hY⟩ : ∃ Y, Y = R.enc t1 t2 := ⟨_, rfl⟩
            rw [← hY] at lE f2 f3 ⊢
            have eY : Hid (Y = R.enc t1 t2) := ⟨hY⟩
            clear hY
            subst e
            repeat' (simp -dsimp -implicitDefEqProofs [*])
            refine DrawLate.intro [p6] ?_
            repeat' (first 
             | (with_reducible refine Defs.xdef (ccaught_ret _ _) ?_)
             | (with_reducible refine Cls_and ?_ ?_)
             | (with_reducible exact Cls.self _ _)
             | (with_reducible refine Cls_same ?_)
             | (with_reducible refine Cls_in ?_ ?_)
             | (simp -dsimp -implicitDefEqProofs [*]))
            rw [eY.out]
            refine .le (rle R _ _) ?_
            exact RetView.drop (st' := st) (by repeat' (first | exact StLe.refl _ | (refine StLe_cons (by simp [*]; done) ?_) | (refine StLe_fresh (by simp [*]; done) ?_))) ⟨rfl, rfl⟩
          · simp only at ho hI
            subst ho
            have e : Z = (R, (n : Int), 0) := by rw [hI.out.2.1]; exact kE.out _ (by have := hI.out.1; omega) hI.out.2.2.2 (.inr hI.out.2.2.1)
            simp only [lsE_some, lpE_some]
            have lE : (R.enc t1 t2).length = 8 := rfl
            have f2 := cells_sub lE
            have f3 := cells_all (c := [.int 0, .int 0, .bool false, .nil, .bool false, .nil, .int 0, .int 0]) (V := R.enc t1 t2) rfl
            clear hkey hent aB sG sL kg kr kE hI hc
            obtain ⟨Y, hY⟩ : ∃ Y, Y = R.enc t1 t2 := ⟨_, rfl⟩
            rw [← hY] at lE f2 f3 ⊢
            have eY : Hid (Y = R.enc t1 t2) := ⟨hY⟩
            clear hY
            subst e
            repeat' (simp -dsimp -implicitDefEqProofs [*])
            refine DrawLate.intro [p6] ?_
            repeat' (first 
             | (with_reducible refine Defs.xdef (ccaught_ret _ _) ?_)
             | (with_reducible refine Cls_and ?_ ?_)
             | (with_reducible exact Cls.self _ _)
             | (with_reducible refine Cls_same ?_)
             | (with_reducible refine Cls_in ?_ ?_)
             | (simp -dsimp -implicitDefEqProofs [*]))
            rw [eY.out]
            refine .le (rle R _ _) ?_
            exact RetView.drop (st' := st) (by repeat' (first | exact StLe.refl _ | (refine StLe_cons (by simp [*]; done) ?_) | (refine StLe_fresh (by simp [*]; done) ?_))) ⟨rfl, rfl⟩
    · have e : runR r O A = (Rc.zero, 0, 1) := by simp [runR, h, hA]
      rw [e]
      show Rets P F.recount_Run [.agg (r.enc t1 t2), intLst t O, boolLst u A] st (.tuple [.agg (Rc.zero.enc false false), .int 0, .int 1])
      obtain ⟨N, hN⟩ : ∃ N : Nat, r.n = N := ⟨r.n.toNat, by omega⟩
      rw [hN] at l0 hA
      have hN2 : N ≤ 40 := by omega
      obtain ⟨X, hX⟩ : ∃ X, X = r.enc t1 t2 := ⟨_, rfl⟩
      rw [← hX] at c1 lE l0 ⊢
      have f2 := cells_sub lE
      have hA2 : ¬ A.length = N := by omega
      clear hX c h e
      refine H.recount_Run.view hmix rfl rfl ?_
      repeat' (first 
       | (with_reducible refine Fresh.intro fun b hb => ?_) <;> (try simp -dsimp -implicitDefEqProofs [*] at hb)
       | (with_reducible refine Rets.xcall (c1 _) ?_)
       | (with_reducible refine Panics.xcall (cneed_no _ _) ?_)
       | ((with_reducible refine and_keep ?_ fun hk => ?_); omega)
       | (simp -dsimp -implicitDefEqProofs [H.recount_caught.enters, *]))
      revert b
      revert b
      revert b
      revert b
      revert b
      revert b
      intro p3 hp3 p6 hp6 p7 hp7 p8 hp8 p9 hp9 met hmet
      refine Defs.xdef (ccaught_pan p8 1 0 _ (by simp [*])) ?_
      repeat' (simp -dsimp -implicitDefEqProofs [epick, *])
      refine .le (zero_le3 _ _) ?_
      exact RetView.drop (st' := st) (by repeat' (first | exact StLe.refl _ | (refine StLe_cons (by simp [*]; done) ?_) | (refine StLe_fresh (by simp [*]; done) ?_))) ⟨rfl, rfl⟩
end Go.Proofs.YtokkkmfbejgccaaGreat
