/- Package nat: whole numbers. -/
import Derived.Test.YtliglilanpfjhaaGreatG21J
import Derived.Test.YtliglilanpfjhaaGreatLKd
import Derived.Test.YtliglilanpfjhaaGreatLDp
namespace Go.Proofs.YtliglilanpfjhaaGreat
open Go.Pv
set_option maxRecDepth 100000
set_option maxHeartbeats 4000000
theorem zOk (z : Int) (h : dl z.natAbs ≤ 2048) : bigOk (decide (z < 0)) (digs z.natAbs) = true := bigOk_digs h fun h => by simp only [decide_eq_false_iff_not]; omega
theorem natMul_spec (t u : Bool) (a b : Int) (ha : dl a.natAbs ≤ 2048) (hb : dl b.natAbs ≤ 2048) (hab : dl (a * b).natAbs ≤ 2048) (st : Store) : Rets P F.nat_Mul [.agg (zC t a), .agg (zC u b)] st (.tuple [.agg (zC false (a * b)), .int 0]) := by
  refine H.nat_Mul.view hmix rfl rfl ?_
  have hc := check_ok _ t _ u _ _ (zOk a ha) (zOk b hb) (by unfold dl at ha; omega) (by unfold dl at hb; omega)
  have hm := mul_spec t u (digs a.natAbs) (digs b.natAbs) a.natAbs b.natAbs (dv_digs _) (dv_digs _) (digs_ok _) (digs_ok _) (by unfold dl at ha; omega) (by unfold dl at hb; omega)
  rw [Int.natAbs_mul] at hab
  have hg := fun s => big_spec s false (a.natAbs * b.natAbs) hab
  have e := zC_mul a b
  rw [e]
  unfold zC
  clear ha hb hab e
  obtain ⟨A, hA⟩ : ∃ A, A = digs a.natAbs := ⟨_, rfl⟩
  obtain ⟨B, hB⟩ : ∃ B, B = digs b.natAbs := ⟨_, rfl⟩
  obtain ⟨n, hn⟩ : ∃ n, n = a.natAbs * b.natAbs := ⟨_, rfl⟩
  obtain ⟨s1, h1⟩ : ∃ s, s = decide (a < 0) := ⟨_, rfl⟩
  obtain ⟨s2, h2⟩ : ∃ s, s = decide (b < 0) := ⟨_, rfl⟩
  rw [← hA, ← hB, ← h1, ← h2] at hc
  rw [← hA, ← hB, ← hn] at hm
  rw [← hn] at hg
  rw [← hA, ← hB, ← hn, ← h1, ← h2]
  clear hA hB hn h1 h2
  repeat' (first 
   | (with_reducible refine Fresh.intro fun b hb => ?_) <;> (try simp -dsimp -implicitDefEqProofs [*] at hb)
   | (with_reducible refine Rets.xcall (hc _) ?_)
   | (with_reducible refine Rets.xcall (hm _) ?_)
   | (with_reducible refine Rets.xcall (hg _ _) ?_)
   | (with_reducible refine Defs.xdef (ncaught_ret _ _) ?_)
   | (with_reducible refine Lit.imm ?_)
   | (with_reducible refine DrawLate.intro [] ?_)
   | (simp -dsimp -implicitDefEqProofs [H.nat_caught.enters, *]))
  exact RetView.drop (st' := st) (by repeat' (first | exact StLe.refl _ | (refine StLe_cons (by simp [*]; done) ?_) | (refine StLe_fresh (by simp [*]; done) ?_))) ⟨rfl, rfl⟩
theorem cmpZ_nat (a b : Int) : cmpZ a b = if a < 0 then (if b < 0 then cmpN b.natAbs a.natAbs else -1) else if b < 0 then 1 else cmpN a.natAbs b.natAbs := by
  unfold cmpZ cmpN
  repeat' split
  all_goals omega
theorem natCmp_spec (t u : Bool) (a b : Int) (ha : dl a.natAbs ≤ 2048) (hb : dl b.natAbs ≤ 2048) (st : Store) : Rets P F.nat_Cmp [.agg (zC t a), .agg (zC u b)] st (.tuple [.int (cmpZ a b), .int 0]) := by
  refine H.nat_Cmp.view hmix rfl rfl ?_
  have hc := check_ok _ t _ u _ _ (zOk a ha) (zOk b hb) (by unfold dl at ha; omega) (by unfold dl at hb; omega)
  have k1 := compare_spec u t b.natAbs a.natAbs (by omega) (by omega)
  have k2 := compare_spec t u a.natAbs b.natAbs (by omega) (by omega)
  rw [cmpZ_nat]
  unfold zC
  clear ha hb
  obtain ⟨A, hA⟩ : ∃ A, A = digs a.natAbs := ⟨_, rfl⟩
  obtain ⟨B, hB⟩ : ∃ B, B = digs b.natAbs := ⟨_, rfl⟩
  obtain ⟨c1, hc1⟩ : ∃ c, c = cmpN a.natAbs b.natAbs := ⟨_, rfl⟩
  obtain ⟨c2, hc2⟩ : ∃ c, c = cmpN b.natAbs a.natAbs := ⟨_, rfl⟩
  rw [← hA, ← hB] at hc k1 k2
  rw [← hc2] at k1
  rw [← hc1] at k2
  rw [← hA, ← hB, ← hc1, ← hc2]
  clear hA hB hc1 hc2
  by_cases h1 : a < 0
  · by_cases h2 : b < 0
    · simp only [h1, h2, decide_true] at hc ⊢
      repeat' (first 
       | (with_reducible refine Fresh.intro fun b hb => ?_) <;> (try simp -dsimp -implicitDefEqProofs [*] at hb)
       | (with_reducible refine Rets.xcall (hc _) ?_)
       | (with_reducible refine Rets.xcall (k1 _) ?_)
       | (with_reducible refine Defs.xdef (ncaught_ret _ _) ?_)
       | (with_reducible refine Lit.imm ?_)
       | (simp -dsimp -implicitDefEqProofs [H.nat_caught.enters, *]))
      exact RetView.drop (st' := st) (by repeat' (first | exact StLe.refl _ | (refine StLe_cons (by simp [*]; done) ?_) | (refine StLe_fresh (by simp [*]; done) ?_))) ⟨rfl, rfl⟩
    · simp only [h1, h2, decide_true, decide_false] at hc ⊢
      repeat' (first 
       | (with_reducible refine Fresh.intro fun b hb => ?_) <;> (try simp -dsimp -implicitDefEqProofs [*] at hb)
       | (with_reducible refine Rets.xcall (hc _) ?_)
       | (with_reducible refine Defs.xdef (ncaught_ret _ _) ?_)
       | (with_reducible refine Lit.imm ?_)
       | (simp -dsimp -implicitDefEqProofs [H.nat_caught.enters, *]))
      exact RetView.drop (st' := st) (by repeat' (first | exact StLe.refl _ | (refine StLe_cons (by simp [*]; done) ?_) | (refine StLe_fresh (by simp [*]; done) ?_))) ⟨rfl, rfl⟩
  · by_cases h2 : b < 0
    · simp only [h1, h2, decide_true, decide_false] at hc ⊢
      repeat' (first 
       | (with_reducible refine Fresh.intro fun b hb => ?_) <;> (try simp -dsimp -implicitDefEqProofs [*] at hb)
       | (with_reducible refine Rets.xcall (hc _) ?_)
       | (with_reducible refine Defs.xdef (ncaught_ret _ _) ?_)
       | (with_reducible refine Lit.imm ?_)
       | (simp -dsimp -implicitDefEqProofs [H.nat_caught.enters, *]))
      exact RetView.drop (st' := st) (by repeat' (first | exact StLe.refl _ | (refine StLe_cons (by simp [*]; done) ?_) | (refine StLe_fresh (by simp [*]; done) ?_))) ⟨rfl, rfl⟩
    · simp only [h1, h2, decide_false] at hc ⊢
      repeat' (first 
       | (with_reducible refine Fresh.intro fun b hb => ?_) <;> (try simp -dsimp -implicitDefEqProofs [*] at hb)
       | (with_reducible refine Rets.xcall (hc _) ?_)
       | (with_reducible refine Rets.xcall (k2 _) ?_)
       | (with_reducible refine Defs.xdef (ncaught_ret _ _) ?_)
       | (with_reducible refine Lit.imm ?_)
       | (simp -dsimp -implicitDefEqProofs [H.nat_caught.enters, *]))
      exact RetView.drop (st' := st) (by repeat' (first | exact StLe.refl _ | (refine StLe_cons (by simp [*]; done) ?_) | (refine StLe_fresh (by simp [*]; done) ?_))) ⟨rfl, rfl⟩
theorem natGcd_spec (t u : Bool) (v w : Int) (ha : dl v.natAbs ≤ 2048) (hb : dl w.natAbs ≤ 2048) (st : Store) : Rets P F.nat_Gcd [.agg (zC t v), .agg (zC u w)] st (.tuple [.agg (zC false (Nat.gcd v.natAbs w.natAbs : Nat)), .int 0]) := by
  refine H.nat_Gcd.view hmix rfl rfl ?_
  have hc := check_ok _ t _ u _ _ (zOk v ha) (zOk w hb) (by unfold dl at ha; omega) (by unfold dl at hb; omega)
  obtain ⟨x, hx⟩ : ∃ x, x = v.natAbs := ⟨_, rfl⟩
  obtain ⟨y, hy⟩ : ∃ y, y = w.natAbs := ⟨_, rfl⟩
  have e : ((Nat.gcd x y : Nat) : Int).natAbs = Nat.gcd x y := rfl
  have e2 : zC false (Nat.gcd x y : Nat) = [.bool false, intLst false (digs (Nat.gcd x y))] := by
    have : ¬ ((Nat.gcd x y : Nat) : Int) < 0 := by omega
    unfold zC
    rw [decide_eq_false this, e]
  rw [← hx] at hc ha
  rw [← hy] at hc hb
  rw [← hx, ← hy, e2]
  unfold zC
  rw [← hx, ← hy]
  clear hx hy e e2
  repeat' (first 
   | (with_reducible refine Fresh.intro fun b hb => ?_) <;> (try simp -dsimp -implicitDefEqProofs [*] at hb)
   | (with_reducible refine Rets.xcall (hc _) ?_)
   | (with_reducible refine Lit.imm ?_)
   | (simp -dsimp -implicitDefEqProofs [H.nat_caught.enters, *]))
  revert b
  revert b
  revert b
  revert b
  intro p2 h2 p3 h3 p4 h4 p5 h5
  refine xloop_for (fun y : Bool × Bool × Nat × Nat => [(4, .ptr p4 0), (5, .ptr p5 0), (6, intLst y.1 (digs y.2.2.1)), (7, intLst y.2.1 (digs y.2.2.2))]) (fun _ => (p5, .arr T.apiErrno [.int 0]) :: (p4, .arr T.apiBig [.bool false, .nil]) :: (p3, .arr T.apiBig [.bool (decide (w < 0)), intLst u (digs y)]) :: (p2, .arr T.apiBig [.bool (decide (v < 0)), intLst t (digs x)]) :: st)
    (fun z => dl z.2.2.1 ≤ 2048 ∧ dl z.2.2.2 ≤ 2048 ∧ Hid (Nat.gcd z.2.2.1 z.2.2.2 = Nat.gcd x y)) (fun z => z.2.2.2) (t, u, x, y) ⟨ha, hb, ⟨rfl⟩⟩ (by simp) (.refl _) ?_
  rintro ⟨t1, u1, m, n⟩ ⟨hm, hn, hg⟩
  simp only at hm hn hg
  clear ha hb hc
  by_cases hn0 : n = 0
  · subst hn0
    have hg2 : m = Nat.gcd x y := by have := hg.out; rwa [Nat.gcd_zero_right] at this
    have hbig := big_spec false t1 m hm
    rw [← hg2, digs_zero]
    clear hg hg2 hn
    repeat' (first 
     | (with_reducible refine Rets.xcall (hbig _) ?_)
     | (with_reducible refine Defs.xdef (ncaught_ret _ _) ?_)
     | (simp -dsimp -implicitDefEqProofs [*]))
    exact RetView.drop (st' := st) (by repeat' (first | exact StLe.refl _ | (refine StLe_cons (by simp [*]; done) ?_) | (refine StLe_fresh (by simp [*]; done) ?_))) ⟨rfl, rfl⟩
  · have hd := div_spec t1 u1 m n hn0 (by omega) (by omega)
    have l0 : 0 < (digs n).length := dl_pos hn0
    have hlt := Nat.mod_lt m (show 0 < n by omega)
    have hmn : dl (m % n) ≤ 2048 := Nat.le_trans (dl_mono (Nat.le_of_lt hlt)) hn
    have hg2 : Hid (Nat.gcd n (m % n) = Nat.gcd x y) := ⟨by rw [gcd_step]; exact hg.out⟩
    clear hg
    repeat' (first 
     | (with_reducible refine Rets.xcall (hd _) ?_)
     | (simp -dsimp -implicitDefEqProofs [*]))
    exact Next.intro (u1, false, n, m % n) ⟨hn, hmn, hg2⟩ hlt (by simp) (.refl _)
end Go.Proofs.YtliglilanpfjhaaGreat
/- Package nat: exact quotients, numbers of small ones. -/
namespace Go.Proofs.YtliglilanpfjhaaGreat
open Go.Pv
set_option maxRecDepth 100000
set_option maxHeartbeats 4000000
theorem div1_ok (r p q : Nat) (u : PMode) (st : Store) (hr : sget st r = some (.arr T.apiErrno [.int 0])) : Defs P F.nat_Div_1 [.ptr r 0, .ptr p 0, .ptr q 0] u st u st := by
  refine H.nat_Div_1.defs hmix rfl rfl rfl ?_
  repeat' (simp -dsimp -implicitDefEqProofs [*])
theorem zC_quo (w : Int) (d : Nat) (hd : d ≠ 0) : zC false w = [.bool ((decide (w * d < 0)) && decide (w.natAbs ≠ 0)), intLst false (digs w.natAbs)] ∧ (w * d).natAbs / d = w.natAbs ∧ (w * d).natAbs % d = 0 := by
  have e : (w * d).natAbs = w.natAbs * d := by rw [Int.natAbs_mul]; rfl
  refine ⟨?_, by rw [e, Nat.mul_div_cancel _ (by omega)], by rw [e, Nat.mul_mod_left]⟩
  unfold zC
  congr 2
  by_cases h : w < 0
  · have : w * d < 0 := Int.mul_neg_of_neg_of_pos h (by omega)
    have h2 : w.natAbs ≠ 0 := by omega
    rw [decide_eq_true h, decide_eq_true this, decide_eq_true h2]; rfl
  · have : ¬ w * d < 0 := by
      have := Int.mul_nonneg (show 0 ≤ w by omega) (show 0 ≤ (d : Int) by omega)
      omega
    rw [decide_eq_false h, decide_eq_false this]; rfl
theorem natDiv_spec (t u : Bool) (w : Int) (d : Nat) (hd : d ≠ 0) (hw : dl (w * d).natAbs ≤ 2048) (hd2 : dl d ≤ 2048) (st : Store) : Rets P F.nat_Div [.agg (zC t (w * d)), .agg [.bool false, intLst u (digs d)]] st (.tuple [.agg (zC false w), .agg [.bool false, intLst false []], .int 0]) := by
  refine H.nat_Div.view hmix rfl rfl ?_
  have hc := check_ok _ t _ u _ _ (zOk (w * d) hw) (bigOk_digs (s := false) hd2 fun _ => rfl) (by unfold dl at hw; omega) (by unfold dl at hd2; omega)
  have hv := div_spec t u (w * d).natAbs d hd (by omega) (by omega)
  obtain ⟨e1, e2, e3⟩ := zC_quo w d hd
  have hw2 : dl w.natAbs ≤ 2048 := by
    rw [← e2]
    exact Nat.le_trans (dl_div _ _) hw
  rw [e2, e3, digs_zero] at hv
  have b1 := fun s => big_spec s false w.natAbs hw2
  have b2 := big_spec false false 0 (by rw [dl_zero]; omega)
  rw [digs_zero] at b2
  have l0 : 0 < (digs d).length := dl_pos hd
  rw [e1]
  unfold zC
  obtain ⟨s, hs⟩ : ∃ s, s = decide (w * d < 0) := ⟨_, rfl⟩
  rw [← hs] at hc ⊢
  clear hs hw hd2 e1 e2 e3
  obtain ⟨X, hX⟩ : ∃ X, X = digs (w * d).natAbs := ⟨_, rfl⟩
  rw [← hX] at hc hv ⊢
  clear hX
  repeat' (first 
   | (with_reducible refine Fresh.intro fun b hb => ?_) <;> (try simp -dsimp -implicitDefEqProofs [*] at hb)
   | (with_reducible refine Rets.xcall (hc _) ?_)
   | (with_reducible refine Rets.xcall (hv _) ?_)
   | (with_reducible refine Rets.xcall (b1 _ _) ?_)
   | (with_reducible refine Rets.xcall (b2 _) ?_)
   | (with_reducible refine Defs.xdef (ncaught_ret _ _) ?_)
   | (with_reducible refine Defs.xdef (div1_ok _ _ _ _ _ (by simp [*])) ?_)
   | (with_reducible refine Lit.imm ?_)
   | (with_reducible refine And.intro (fun h => ?_) (fun h => ?_)) <;> (try (exfalso; omega))
   | (simp -dsimp -implicitDefEqProofs [H.nat_caught.enters, H.nat_Div_1.enters, *]))
  all_goals exact RetView.drop (st' := st) (by repeat' (first | exact StLe.refl _ | (refine StLe_cons (by simp [*]; done) ?_) | (refine StLe_fresh (by simp [*]; done) ?_))) ⟨rfl, rfl⟩
theorem natMake_spec (n : Int) (h1 : -9223372036854775808 ≤ n) (h2 : n ≤ 9223372036854775807) (st : Store) : Rets P F.nat_Make [.int n] st (.agg (zC false n)) := by
  refine H.nat_Make.view hmix rfl rfl ?_
  have w1 : IntKind.u64.wrap (n : Int) = if n < 0 then n + 18446744073709551616 else n := by
    have : IntKind.u64.wrap n = n % 18446744073709551616 := rfl
    rw [this]
    split <;> omega
  have w2 : n < 0 → IntKind.u64.wrap (-(n + 18446744073709551616)) = (n.natAbs : Nat) := by
    intro h
    have : IntKind.u64.wrap (-(n + 18446744073709551616)) = -(n + 18446744073709551616) % 18446744073709551616 := rfl
    rw [this]
    omega
  have w3 : ¬ n < 0 → IntKind.u64.wrap (n : Int) = (n.natAbs : Nat) := by
    intro h
    rw [w1, if_neg h]
    omega
  by_cases hn : n < 0
  · rw [if_pos hn] at w1
    have w2 := w2 hn
    repeat' (first 
     | (with_reducible refine Fresh.intro fun b hb => ?_) <;> (try simp -dsimp -implicitDefEqProofs [*] at hb)
     | (with_reducible refine Lit.imm ?_)
     | (simp -dsimp -implicitDefEqProofs [-xappend_list, *]))
    refine xloop_for (fun y : Nat × Option (Acc Int) => [(0, .int n), (2, .ptr b 0), (3, accT y.2), (4, .val (.int .u64 (y.1 : Nat)))]) (fun y => accS T.int ((b, .arr T.apiBig [.bool false, .nil]) :: st) y.2) (fun y => y.1 < 18446744073709551616 ∧ accOk intRow 1 ((b, .arr T.apiBig [.bool false, .nil]) :: st) y.2 ∧ Hid (accL y.2 ++ digs y.1 = digs n.natAbs)) (fun y => y.1) (n.natAbs, none) ⟨by simp only; omega, trivial, ⟨rfl⟩⟩ (by simp) (.refl _) ?_
    rintro ⟨u, o⟩ ⟨hu, ho, hl⟩
    simp only at hu ho hl
    have e1 : ∀ o, accL (o : Option (Acc Int)) ++ digs 0 = digs n.natAbs → accL o = digs n.natAbs := fun o h => by rwa [digs_zero, List.append_nil] at h
    by_cases hu0 : u = 0
    · subst hu0
      have hl := e1 o hl.out
      have hb2 := hb
      clear e1 w1 w2 w3
      cases o with
      | none =>
        simp only [accL_none] at hl
        have hz : zC false n = [.bool (decide (n < 0)), .list false [] 0] := by unfold zC; rw [← hl]; rfl
        rw [hz]
        clear hl hz
        repeat' (simp -dsimp -implicitDefEqProofs [-xappend_list, *])
        exact .le (.agg2 (.refl _) .loose) (.drop (by simp [*]) ⟨rfl, rfl⟩)
      | some a =>
        simp only [accL_some] at hl
        obtain ⟨ha, hab⟩ := ho
        simp only [snew_cons] at hab
        have hz : zC false n = [.bool (decide (n < 0)), .list false (intRow a.l) a.l.length] := by unfold zC; rw [← hl]
        rw [hz]
        clear hl hz
        repeat' (simp -dsimp -implicitDefEqProofs [-xappend_list, *])
        refine .freeze (.agg [.bool _, .list false (intRow a.l) a.l.length]) (by simp [*]) (.agg (.cons (.refl _) (.cons (Frz.acc ha) .nil))) ?_
        exact .drop (by simp [*]) ⟨rfl, rfl⟩
    · have hup : 0 < u := by omega
      have x1 : IntKind.i64.wrap ((u : Int) % 1073741824) = ((u % 1073741824 : Nat) : Int) := by rw [wrap_in (by omega) (by omega)]; omega
      have x2 : ((u : Int)).fdiv (2 ^ min 30 IntKind.u64.bits) = (u / 1073741824 : Nat) := by
        have e : (2 : Int) ^ min 30 IntKind.u64.bits = 1073741824 := rfl
        rw [e, Int.fdiv_eq_ediv_of_nonneg _ (by omega)]; rfl
      have hd := digs_pos hu0
      rw [hd] at hl
      clear e1 w1 w2 w3 hd
      have kn : Hid ((accL o).length ≤ 3) := ⟨by
        have h3 : dl n.natAbs ≤ 3 := dl_le.2 (by omega)
        have := congrArg List.length hl.out
        rw [List.length_append] at this
        unfold dl at h3
        omega⟩
      repeat' (first 
       | (with_reducible refine Lit.imm ?_)
       | (simp -dsimp -implicitDefEqProofs [-xappend_list, *]))
      refine xappend_accT intRow_len intRow_append o ho [((u % 1073741824 : Nat) : Int)] (by simp [intRow]) rfl (by omega) (by have := kn.out; omega) fun a ha hab hal => ?_
      have hl2 : Hid (accL (some a) ++ digs (u / 1073741824) = digs n.natAbs) := ⟨by
        rw [accL_some, hal, List.append_assoc]; exact hl.out⟩
      clear hl hal ho
      repeat' (simp -dsimp -implicitDefEqProofs [-xappend_list, *])
      exact Next.intro (u / 1073741824, some a) ⟨by simp only; omega, ⟨ha, hab⟩, hl2⟩ (by simp only; omega) (by simp) (by repeat' (first | exact StLe.refl _ | (refine StLe_cons (by simp [*]; done) ?_) | (refine StLe_fresh (by simp [*]; done) ?_)))
  · have w3 := w3 hn
    clear w1 w2
    repeat' (first 
     | (with_reducible refine Fresh.intro fun b hb => ?_) <;> (try simp -dsimp -implicitDefEqProofs [*] at hb)
     | (with_reducible refine Lit.imm ?_)
     | (simp -dsimp -implicitDefEqProofs [-xappend_list, *]))
    refine xloop_for (fun y : Nat × Option (Acc Int) => [(0, .int n), (2, .ptr b 0), (3, accT y.2), (4, .val (.int .u64 (y.1 : Nat)))]) (fun y => accS T.int ((b, .arr T.apiBig [.bool false, .nil]) :: st) y.2) (fun y => y.1 < 18446744073709551616 ∧ accOk intRow 1 ((b, .arr T.apiBig [.bool false, .nil]) :: st) y.2 ∧ Hid (accL y.2 ++ digs y.1 = digs n.natAbs)) (fun y => y.1) (n.natAbs, none) ⟨by simp only; omega, trivial, ⟨rfl⟩⟩ (by simp) (.refl _) ?_
    rintro ⟨u, o⟩ ⟨hu, ho, hl⟩
    simp only at hu ho hl
    have e1 : ∀ o, accL (o : Option (Acc Int)) ++ digs 0 = digs n.natAbs → accL o = digs n.natAbs := fun o h => by rwa [digs_zero, List.append_nil] at h
    by_cases hu0 : u = 0
    · subst hu0
      have hl := e1 o hl.out
      have hb2 := hb
      clear e1 w3
      cases o with
      | none =>
        simp only [accL_none] at hl
        have hz : zC false n = [.bool (decide (n < 0)), .list false [] 0] := by unfold zC; rw [← hl]; rfl
        rw [hz]
        clear hl hz
        repeat' (simp -dsimp -implicitDefEqProofs [-xappend_list, *])
        exact .le (.agg2 (.refl _) .loose) (.drop (by simp [*]) ⟨rfl, rfl⟩)
      | some a =>
        simp only [accL_some] at hl
        obtain ⟨ha, hab⟩ := ho
        simp only [snew_cons] at hab
        have hz : zC false n = [.bool (decide (n < 0)), .list false (intRow a.l) a.l.length] := by unfold zC; rw [← hl]
        rw [hz]
        clear hl hz
        repeat' (simp -dsimp -implicitDefEqProofs [-xappend_list, *])
        refine .freeze (.agg [.bool _, .list false (intRow a.l) a.l.length]) (by simp [*]) (.agg (.cons (.refl _) (.cons (Frz.acc ha) .nil))) ?_
        exact .drop (by simp [*]) ⟨rfl, rfl⟩
    · have hup : 0 < u := by omega
      have x1 : IntKind.i64.wrap ((u : Int) % 1073741824) = ((u % 1073741824 : Nat) : Int) := by rw [wrap_in (by omega) (by omega)]; omega
      have x2 : ((u : Int)).fdiv (2 ^ min 30 IntKind.u64.bits) = (u / 1073741824 : Nat) := by
        have e : (2 : Int) ^ min 30 IntKind.u64.bits = 1073741824 := rfl
        rw [e, Int.fdiv_eq_ediv_of_nonneg _ (by omega)]; rfl
      have hd := digs_pos hu0
      rw [hd] at hl
      clear e1 w3 hd
      have kn : Hid ((accL o).length ≤ 3) := ⟨by
        have h3 : dl n.natAbs ≤ 3 := dl_le.2 (by omega)
        have := congrArg List.length hl.out
        rw [List.length_append] at this
        unfold dl at h3
        omega⟩
      repeat' (first 
       | (with_reducible refine Lit.imm ?_)
       | (simp -dsimp -implicitDefEqProofs [-xappend_list, *]))
      refine xappend_accT intRow_len intRow_append o ho [((u % 1073741824 : Nat) : Int)] (by simp [intRow]) rfl (by omega) (by have := kn.out; omega) fun a ha hab hal => ?_
      have hl2 : Hid (accL (some a) ++ digs (u / 1073741824) = digs n.natAbs) := ⟨by
        rw [accL_some, hal, List.append_assoc]; exact hl.out⟩
      clear hl hal ho
      repeat' (simp -dsimp -implicitDefEqProofs [-xappend_list, *])
      exact Next.intro (u / 1073741824, some a) ⟨by simp only; omega, ⟨ha, hab⟩, hl2⟩ (by simp only; omega) (by simp) (by repeat' (first | exact StLe.refl _ | (refine StLe_cons (by simp [*]; done) ?_) | (refine StLe_fresh (by simp [*]; done) ?_)))
end Go.Proofs.YtliglilanpfjhaaGreat
