/- Sums of whole numbers and of ratios. -/
import Derived.Test.YtliglilanpfjhaaGreatG21RA
namespace Go.Proofs.YtliglilanpfjhaaGreat
open Go.Pv
set_option maxRecDepth 100000
set_option maxHeartbeats 8000000
theorem signed_spec (t u : Bool) (a b : Int) (ha : dl a.natAbs ≤ 2048) (hb : dl b.natAbs ≤ 2048) (hab : dl (a + b).natAbs ≤ 2048) (st : Store) : Rets P F.nat_signed [.bool (decide (a < 0)), intLst t (digs a.natAbs), .bool (decide (b < 0)), intLst u (digs b.natAbs)] st (.agg (zC false (a + b))) := by
  have c1 := fun st => add_spec t u (digs a.natAbs) (digs b.natAbs) (by unfold dl at ha; omega) (by unfold dl at hb; omega) st (digs_ok _) (digs_ok _)
  have c2 := fun st => sub_spec t u (digs a.natAbs) (digs b.natAbs) (by unfold dl at ha; omega) (by unfold dl at hb; omega) st (digs_ok _) (digs_ok _)
  have c3 := fun st => sub_spec u t (digs b.natAbs) (digs a.natAbs) (by unfold dl at hb; omega) (by unfold dl at ha; omega) st (digs_ok _) (digs_ok _)
  have c4 := compare_spec t u a.natAbs b.natAbs (by omega) (by omega)
  have eadd := addD a.natAbs b.natAbs
  unfold dl at eadd
  rw [eadd] at c1
  have g := fun s => big_spec s false (a + b).natAbs hab
  have eZ : zC false (a + b) = [.bool (decide (a + b < 0)), intLst false (digs (a + b).natAbs)] := rfl
  rw [eZ]
  by_cases hs : (decide (a < 0)) = (decide (b < 0))
  · have en : a.natAbs + b.natAbs = (a + b).natAbs := by
      rw [decide_eq_decide] at hs
      omega
    have es : (decide (b < 0) && decide ((a + b).natAbs ≠ 0)) = decide (a + b < 0) := by
      rw [decide_eq_decide] at hs
      by_cases h : b < 0
      · rw [decide_eq_true h, decide_eq_true (show (a + b).natAbs ≠ 0 by omega), decide_eq_true (show a + b < 0 by omega)]; rfl
      · rw [decide_eq_false h, decide_eq_false (show ¬ a + b < 0 by omega)]; rfl
    rw [en] at c1
    have g := g (decide (b < 0))
    rw [es] at g
    rw [hs]
    obtain ⟨A, hA⟩ : ∃ A, A = digs a.natAbs := ⟨_, rfl⟩
    obtain ⟨B, hB⟩ : ∃ A, A = digs b.natAbs := ⟨_, rfl⟩
    obtain ⟨C, hC⟩ : ∃ A, A = digs (a + b).natAbs := ⟨_, rfl⟩
    obtain ⟨s, hss⟩ : ∃ A, A = decide (b < 0) := ⟨_, rfl⟩
    obtain ⟨r, hr⟩ : ∃ A, A = decide (a + b < 0) := ⟨_, rfl⟩
    rw [← hA, ← hB, ← hC] at c1
    rw [← hC, ← hss, ← hr] at g
    rw [← hA, ← hB, ← hC, ← hss, ← hr]
    clear hA hB hC hss hr c2 c3 c4 eadd en es hs eZ ha hb hab
    refine H.nat_signed.view hmix rfl rfl ?_
    repeat' (first 
     | (with_reducible refine Fresh.intro fun b hb => ?_) <;> (try simp -dsimp -implicitDefEqProofs [*] at hb)
     | (with_reducible refine Rets.xcall (c1 _) ?_)
     | (with_reducible refine Rets.xcall (g _) ?_)
     | (simp -dsimp -implicitDefEqProofs [*]))
    exact RetView.drop (st' := st) (by repeat' (first | exact StLe.refl _ | (refine StLe_cons (by simp [*]; done) ?_) | (refine StLe_fresh (by simp [*]; done) ?_))) ⟨rfl, rfl⟩
  · have hs2 : ((decide (a < 0)) == (decide (b < 0))) = false := beq_eq_false_iff_ne.2 hs
    by_cases hab2 : b.natAbs ≤ a.natAbs
    · have e2 := subD hab2
      unfold dl at e2
      rw [e2] at c2
      have en : a.natAbs - b.natAbs = (a + b).natAbs := by
        have : ¬ ((a < 0) ↔ (b < 0)) := fun h => hs (decide_eq_decide.2 h)
        omega
      have es : (decide (a < 0) && decide ((a + b).natAbs ≠ 0)) = decide (a + b < 0) := by
        have : ¬ ((a < 0) ↔ (b < 0)) := fun h => hs (decide_eq_decide.2 h)
        by_cases h : a < 0
        · by_cases h3 : (a + b).natAbs = 0
          · rw [decide_eq_true h, decide_eq_false (by omega), decide_eq_false (show ¬ a + b < 0 by omega)]; rfl
          · rw [decide_eq_true h, decide_eq_true h3, decide_eq_true (show a + b < 0 by omega)]; rfl
        · rw [decide_eq_false h, decide_eq_false (show ¬ a + b < 0 by omega)]; rfl
      rw [en] at c2
      have g := g (decide (a < 0))
      rw [es] at g
      have cc : 0 ≤ cmpN a.natAbs b.natAbs := by unfold cmpN; repeat' split <;> omega
      obtain ⟨A, hA⟩ : ∃ A, A = digs a.natAbs := ⟨_, rfl⟩
      obtain ⟨B, hB⟩ : ∃ A, A = digs b.natAbs := ⟨_, rfl⟩
      obtain ⟨C, hC⟩ : ∃ A, A = digs (a + b).natAbs := ⟨_, rfl⟩
      obtain ⟨s, hss⟩ : ∃ A, A = decide (b < 0) := ⟨_, rfl⟩
      obtain ⟨q, hq⟩ : ∃ A, A = decide (a < 0) := ⟨_, rfl⟩
      obtain ⟨r, hr⟩ : ∃ A, A = decide (a + b < 0) := ⟨_, rfl⟩
      obtain ⟨k, hk⟩ : ∃ k, k = cmpN a.natAbs b.natAbs := ⟨_, rfl⟩
      rw [← hA, ← hB, ← hC] at c2
      rw [← hA, ← hB, ← hk] at c4
      rw [← hk] at cc
      rw [← hC, ← hq, ← hr] at g
      rw [← hss, ← hq] at hs2
      rw [← hA, ← hB, ← hC, ← hss, ← hr, ← hq]
      clear hA hB hC hss hr c1 c3 eadd en es hs eZ ha hb hab hk hq e2 hab2
      refine H.nat_signed.view hmix rfl rfl ?_
      repeat' (first 
       | (with_reducible refine Fresh.intro fun b hb => ?_) <;> (try simp -dsimp -implicitDefEqProofs [*] at hb)
       | (with_reducible refine Rets.xcall (c2 _) ?_)
       | (with_reducible refine Rets.xcall (c4 _) ?_)
       | (with_reducible refine Rets.xcall (g _) ?_)
       | (simp -dsimp -implicitDefEqProofs [*]))
      exact RetView.drop (st' := st) (by repeat' (first | exact StLe.refl _ | (refine StLe_cons (by simp [*]; done) ?_) | (refine StLe_fresh (by simp [*]; done) ?_))) ⟨rfl, rfl⟩
    · have e2 := subD (show a.natAbs ≤ b.natAbs by omega)
      unfold dl at e2
      rw [e2] at c3
      have en : b.natAbs - a.natAbs = (a + b).natAbs := by
        have : ¬ ((a < 0) ↔ (b < 0)) := fun h => hs (decide_eq_decide.2 h)
        omega
      have es : (decide (b < 0) && decide ((a + b).natAbs ≠ 0)) = decide (a + b < 0) := by
        have : ¬ ((a < 0) ↔ (b < 0)) := fun h => hs (decide_eq_decide.2 h)
        by_cases h : b < 0
        · rw [decide_eq_true h, decide_eq_true (show (a + b).natAbs ≠ 0 by omega), decide_eq_true (show a + b < 0 by omega)]; rfl
        · rw [decide_eq_false h, decide_eq_false (show ¬ a + b < 0 by omega)]; rfl
      rw [en] at c3
      have g := g (decide (b < 0))
      rw [es] at g
      have cc : ¬ 0 ≤ cmpN a.natAbs b.natAbs := by unfold cmpN; repeat' split <;> omega
      obtain ⟨A, hA⟩ : ∃ A, A = digs a.natAbs := ⟨_, rfl⟩
      obtain ⟨B, hB⟩ : ∃ A, A = digs b.natAbs := ⟨_, rfl⟩
      obtain ⟨C, hC⟩ : ∃ A, A = digs (a + b).natAbs := ⟨_, rfl⟩
      obtain ⟨s, hss⟩ : ∃ A, A = decide (b < 0) := ⟨_, rfl⟩
      obtain ⟨q, hq⟩ : ∃ A, A = decide (a < 0) := ⟨_, rfl⟩
      obtain ⟨r, hr⟩ : ∃ A, A = decide (a + b < 0) := ⟨_, rfl⟩
      obtain ⟨k, hk⟩ : ∃ k, k = cmpN a.natAbs b.natAbs := ⟨_, rfl⟩
      rw [← hA, ← hB, ← hC] at c3
      rw [← hA, ← hB, ← hk] at c4
      rw [← hk] at cc
      rw [← hC, ← hss, ← hr] at g
      rw [← hss, ← hq] at hs2
      rw [← hA, ← hB, ← hC, ← hss, ← hr, ← hq]
      clear hA hB hC hss hr c1 c2 eadd en es hs eZ ha hb hab hk hq e2 hab2
      refine H.nat_signed.view hmix rfl rfl ?_
      repeat' (first 
       | (with_reducible refine Fresh.intro fun b hb => ?_) <;> (try simp -dsimp -implicitDefEqProofs [*] at hb)
       | (with_reducible refine Rets.xcall (c3 _) ?_)
       | (with_reducible refine Rets.xcall (c4 _) ?_)
       | (with_reducible refine Rets.xcall (g _) ?_)
       | (simp -dsimp -implicitDefEqProofs [*]))
      exact RetView.drop (st' := st) (by repeat' (first | exact StLe.refl _ | (refine StLe_cons (by simp [*]; done) ?_) | (refine StLe_fresh (by simp [*]; done) ?_))) ⟨rfl, rfl⟩
theorem natAdd_spec (t u : Bool) (a b : Int) (ha : dl a.natAbs ≤ 2048) (hb : dl b.natAbs ≤ 2048) (hab : dl (a + b).natAbs ≤ 2048) (st : Store) : Rets P F.nat_Add [.agg (zC t a), .agg (zC u b)] st (.tuple [.agg (zC false (a + b)), .int 0]) := by
  have hc := check_ok _ t _ u _ _ (zOk a ha) (zOk b hb) (by unfold dl at ha; omega) (by unfold dl at hb; omega)
  have cs := signed_spec t u a b ha hb hab
  unfold zC at cs ⊢
  obtain ⟨A, hA⟩ : ∃ A, A = digs a.natAbs := ⟨_, rfl⟩
  obtain ⟨B, hB⟩ : ∃ B, B = digs b.natAbs := ⟨_, rfl⟩
  obtain ⟨C, hC⟩ : ∃ B, B = digs (a + b).natAbs := ⟨_, rfl⟩
  obtain ⟨s1, h1⟩ : ∃ s, s = decide (a < 0) := ⟨_, rfl⟩
  obtain ⟨s2, h2⟩ : ∃ s, s = decide (b < 0) := ⟨_, rfl⟩
  obtain ⟨s3, h3⟩ : ∃ s, s = decide (a + b < 0) := ⟨_, rfl⟩
  rw [← hA, ← hB, ← h1, ← h2] at hc
  rw [← hA, ← hB, ← hC, ← h1, ← h2, ← h3] at cs
  rw [← hA, ← hB, ← hC, ← h1, ← h2, ← h3]
  clear hA hB hC h1 h2 h3 ha hb hab
  refine H.nat_Add.view hmix rfl rfl ?_
  repeat' (first 
   | (with_reducible refine Fresh.intro fun b hb => ?_) <;> (try simp -dsimp -implicitDefEqProofs [*] at hb)
   | (with_reducible refine Rets.xcall (hc _) ?_)
   | (with_reducible refine Rets.xcall (cs _) ?_)
   | (with_reducible refine Defs.xdef (ncaught_ret _ _) ?_)
   | (with_reducible refine Lit.imm ?_)
   | (simp -dsimp -implicitDefEqProofs [H.nat_caught.enters, *]))
  exact RetView.drop (st' := st) (by repeat' (first | exact StLe.refl _ | (refine StLe_cons (by simp [*]; done) ?_) | (refine StLe_fresh (by simp [*]; done) ?_))) ⟨rfl, rfl⟩
end Go.Proofs.YtliglilanpfjhaaGreat
/- Sums of ratios. -/
namespace Go.Proofs.YtliglilanpfjhaaGreat
open Go.Pv
set_option maxRecDepth 100000
set_option maxHeartbeats 8000000
theorem products6_spec (t1 t2 t3 t4 t5 t6 : Bool) (a b c d e f : Int) (ha : dl a.natAbs ≤ 2048) (hb : dl b.natAbs ≤ 2048) (hc : dl c.natAbs ≤ 2048) (hd : dl d.natAbs ≤ 2048) (he : dl e.natAbs ≤ 2048) (hf : dl f.natAbs ≤ 2048) (hab : dl (a * b).natAbs ≤ 2048) (hcd : dl (c * d).natAbs ≤ 2048) (hef : dl (e * f).natAbs ≤ 2048) (st : Store) :
    Rets P F.ratio_products [.list true (zC t1 a ++ zC t2 b ++ zC t3 c ++ zC t4 d ++ zC t5 e ++ zC t6 f) 6] st (.list false (zC false (a * b) ++ zC false (c * d) ++ zC false (e * f)) 3) := by
  have m1 := natMul_spec t1 t2 a b ha hb hab
  have m2 := natMul_spec t3 t4 c d hc hd hcd
  have m3 := natMul_spec t5 t6 e f he hf hef
  have e1 : zC false (a * b) ++ zC false (c * d) ++ zC false (e * f) = zRow [a * b, c * d, e * f] := by simp [zRow]
  rw [e1]
  obtain ⟨x, hx⟩ : ∃ x, x = a * b := ⟨_, rfl⟩
  obtain ⟨y, hy⟩ : ∃ x, x = c * d := ⟨_, rfl⟩
  obtain ⟨z, hz⟩ : ∃ x, x = e * f := ⟨_, rfl⟩
  rw [← hx] at m1 ⊢
  rw [← hy] at m2 ⊢
  rw [← hz] at m3 ⊢
  clear e1 hx hy hz hab hcd hef ha hb hc hd he hf
  have e2 := fun (z : Int) => did_big (decide (z < 0)) false (digs z.natAbs)
  have e4 : ∀ (z : Int) st, Rets P F.ratio_did__apiBig [.agg (zC false z), .int 0] st (.agg (zC false z)) := fun z st => e2 z st
  clear e2
  obtain ⟨R, hR⟩ : ∃ R, R = zC t1 a ++ zC t2 b ++ zC t3 c ++ zC t4 d ++ zC t5 e ++ zC t6 f := ⟨_, rfl⟩
  have k0 : sub R 0 2 = some (zC t1 a) := by rw [hR]; rfl
  have k1 : sub R 2 2 = some (zC t2 b) := by rw [hR]; rfl
  have k2 : sub R 4 2 = some (zC t3 c) := by rw [hR]; rfl
  have k3 : sub R 6 2 = some (zC t4 d) := by rw [hR]; rfl
  have k4 : sub R 8 2 = some (zC t5 e) := by rw [hR]; rfl
  have k5 : sub R 10 2 = some (zC t6 f) := by rw [hR]; rfl
  have kl : R.length = 12 := by rw [hR]; rfl
  rw [← hR]
  clear hR
  have lz : ∀ t (z : Int), (zC t z).length = 2 := fun _ _ => rfl
  have v3 : IntKind.i64.wrap 3 = 3 := wrap_in (by decide) (by decide)
  have v4 : IntKind.i64.wrap 4 = 4 := wrap_in (by decide) (by decide)
  have v5 : IntKind.i64.wrap 5 = 5 := wrap_in (by decide) (by decide)
  have v6 : IntKind.i64.wrap 6 = 6 := wrap_in (by decide) (by decide)
  have v7 : IntKind.i64.wrap 7 = 7 := wrap_in (by decide) (by decide)
  refine H.ratio_products.view hmix rfl rfl ?_
  repeat' (simp -dsimp -implicitDefEqProofs [*])
  refine xloop_for (fun z : Nat × Option (Acc Int) => [(0, .list true R 6), (2, accP z.2), (3, .int ((2 * z.1 : Nat) : Int))]) (fun z => accS T.apiBig st z.2) (fun w => Hid ((w.1 = 0 ∧ w.2 = none) ∨ ∃ a : Acc Int, w.2 = some a ∧ a.Ok zRow 2 ∧ snew st a.b ∧ ((w.1 = 1 ∧ a.l = [x]) ∨ (w.1 = 2 ∧ a.l = [x, y]) ∨ (w.1 = 3 ∧ a.l = [x, y, z])))) (fun z => 3 - z.1) (0, none) ⟨.inl ⟨rfl, rfl⟩⟩ (by simp) (.refl _) ?_
  rintro ⟨n, o⟩ ⟨hI⟩
  simp only at hI
  rcases hI with ⟨rfl, rfl⟩ | ⟨r, rfl, hr, hrb, ⟨rfl, hl0⟩ | ⟨rfl, hl0⟩ | ⟨rfl, hl0⟩⟩
  · clear m2 m3 k2 k3 k4 k5
    repeat' (first 
     | (with_reducible refine Rets.xcall (m1 _) ?_)
     | (with_reducible refine Rets.xcall (e4 _ _) ?_)
     | (with_reducible refine DrawLate.intro [] ?_)
     | (simp -dsimp -implicitDefEqProofs [-xappend_list, *]))
    refine xappend_acc0 zRow_len [x] (by simp [zRow]) rfl (by omega) (by omega) fun r hr hl0 hb => ?_
    have hl : Hid (r.l = [x]) := ⟨hl0⟩
    clear hl0
    repeat' (first 
     | (with_reducible refine Cls_and ?_ ?_)
     | (with_reducible exact Cls.self _ _)
     | (with_reducible refine Cls_fresh ?_ ?_)
     | (simp -dsimp -implicitDefEqProofs [-xappend_list, *]))
    exact Next.intro (1, some r) ⟨.inr ⟨r, rfl, hr, hb, .inl ⟨rfl, hl.out⟩⟩⟩ (by simp only; omega) (by simp) (by repeat' (first | exact StLe.refl _ | (refine StLe_cons (by simp [*]; done) ?_) | (refine StLe_fresh (by simp [*]; done) ?_)))
  · clear m1 m3 k0 k1 k4 k5
    have hl : Hid (r.l = [x]) := ⟨hl0⟩
    clear hl0
    repeat' (simp -dsimp -implicitDefEqProofs [-xappend_list, *])
    refine DrawLate.intro [r.b] ?_
    repeat' (first 
     | (with_reducible refine Rets.xcall (m2 _) ?_)
     | (with_reducible refine Rets.xcall (e4 _ _) ?_)
     | (simp -dsimp -implicitDefEqProofs [-xappend_list, *]))
    refine xappend_acc zRow_len zRow_append hr (by simp) [y] (by simp [zRow]) rfl (by rw [hl.out]; simp) fun r2 hr2 hl20 hb2 => ?_
    have hl2 : Hid (r2.l = [x, y]) := ⟨by rw [hl20, hl.out]; rfl⟩
    clear hl20
    have eS : sdel r.b (accS T.apiBig st (some r)) = st := by simp [sdel_of_new hrb]
    have eS : sdel r.b ((r.b, .arr T.apiBig r.R) :: st) = st := eS
    rw [eS] at hb2 ⊢
    clear eS
    repeat' (first 
     | (with_reducible refine Cls_and ?_ ?_)
     | (with_reducible refine Cls_fresh ?_ ?_)
     | (simp -dsimp -implicitDefEqProofs [-xappend_list, *]))
    · exact Cls_out
    · exact Next.intro (2, some r2) ⟨.inr ⟨r2, rfl, hr2, hb2, .inr (.inl ⟨rfl, hl2.out⟩)⟩⟩ (by simp only; omega) (by simp) (by repeat' (first | exact StLe.refl _ | (refine StLe_cons (by simp [*]; done) ?_) | (refine StLe_fresh (by simp [*]; done) ?_)))
  · clear m1 m2 k0 k1 k2 k3
    have hl : Hid (r.l = [x, y]) := ⟨hl0⟩
    clear hl0
    repeat' (simp -dsimp -implicitDefEqProofs [-xappend_list, *])
    refine DrawLate.intro [r.b] ?_
    repeat' (first 
     | (with_reducible refine Rets.xcall (m3 _) ?_)
     | (with_reducible refine Rets.xcall (e4 _ _) ?_)
     | (simp -dsimp -implicitDefEqProofs [-xappend_list, *]))
    refine xappend_acc zRow_len zRow_append hr (by simp) [z] (by simp [zRow]) rfl (by rw [hl.out]; simp) fun r2 hr2 hl20 hb2 => ?_
    have hl2 : Hid (r2.l = [x, y, z]) := ⟨by rw [hl20, hl.out]; rfl⟩
    clear hl20
    have eS : sdel r.b (accS T.apiBig st (some r)) = st := by simp [sdel_of_new hrb]
    have eS : sdel r.b ((r.b, .arr T.apiBig r.R) :: st) = st := eS
    rw [eS] at hb2 ⊢
    clear eS
    repeat' (first 
     | (with_reducible refine Cls_and ?_ ?_)
     | (with_reducible refine Cls_fresh ?_ ?_)
     | (simp -dsimp -implicitDefEqProofs [-xappend_list, *]))
    · exact Cls_out
    · exact Next.intro (3, some r2) ⟨.inr ⟨r2, rfl, hr2, hb2, .inr (.inr ⟨rfl, hl2.out⟩)⟩⟩ (by simp only; omega) (by simp) (by repeat' (first | exact StLe.refl _ | (refine StLe_cons (by simp [*]; done) ?_) | (refine StLe_fresh (by simp [*]; done) ?_)))
  · have hl : Hid (r.l = [x, y, z]) := ⟨hl0⟩
    clear hl0
    clear m1 m2 m3 k0 k1 k2 k3 k4 k5
    repeat' (simp -dsimp -implicitDefEqProofs [-xappend_list, *])
    refine .freeze (.list false (zRow r.l) r.l.length) hrb (Frz.acc hr) ?_
    rw [hl.out]
    exact .same ⟨rfl, rfl⟩
end Go.Proofs.YtliglilanpfjhaaGreat
/- ratio.Add. -/
namespace Go.Proofs.YtliglilanpfjhaaGreat
open Go.Pv
set_option maxRecDepth 100000
set_option maxHeartbeats 8000000
structure AddSmall (a b : Rat) : Prop where
  sa : Small a
  sb : Small b
  n1 : dl (a.num * b.den).natAbs ≤ 2048
  n2 : dl (b.num * a.den).natAbs ≤ 2048
  n3 : dl (a.den * b.den) ≤ 2048
  n4 : dl (a.num * b.den + b.num * a.den).natAbs ≤ 2048
theorem ratAdd_spec (t1 t2 t3 t4 : Bool) (a b : Rat) (h : AddSmall a b) (st : Store) : Rets P F.ratio_Add [.agg (rC t1 t2 a), .agg (rC t3 t4 b)] st (.tuple [.agg (rC false false (a + b)), .int 0]) := by
  have hd : a.den * b.den ≠ 0 := Nat.mul_ne_zero a.den_nz b.den_nz
  obtain ⟨g, hg, e1, e2⟩ := mkRat_parts (a.num * b.den + b.num * a.den) hd
  rw [← Rat.add_def'] at e1 e2
  have c0 := lowest_nat (a + b).num (a + b).den g (a + b).den_nz hg (a + b).reduced false false (by rw [← e1]; exact h.n4) (by rw [← e2]; exact h.n3)
  rw [← e1, ← e2] at c0
  have c1 := valid_ok t1 t2 t3 t4 a b h.sa h.sb
  have c2 := products6_spec t1 t4 t3 t2 t2 t4 a.num b.den b.num a.den a.den b.den h.sa.n h.sb.d h.sb.n h.sa.d h.sa.d h.sb.d h.n1 h.n2 (by have := h.n3; rw [Int.natAbs_mul]; exact this)
  have c3 := natAdd_spec false false (a.num * b.den) (b.num * a.den) h.n1 h.n2 h.n4
  have e3 : ((a.den : Int) * (b.den : Int)) = ((a.den * b.den : Nat) : Int) := by push_cast; rfl
  rw [e3] at c2
  have c0 : ∀ st, Rets P F.ratio_pair_lowest [.agg (zC false (a.num * b.den + b.num * a.den) ++ zC false ((a.den * b.den : Nat) : Int))] st (.agg (rC false false (a + b))) := c0
  obtain ⟨p0, hp0⟩ : ∃ p, p = a.num * (b.den : Int) := ⟨_, rfl⟩
  obtain ⟨p1, hp1⟩ : ∃ p, p = b.num * (a.den : Int) := ⟨_, rfl⟩
  obtain ⟨p2, hp2⟩ : ∃ p, p = a.den * b.den := ⟨_, rfl⟩
  rw [← hp0, ← hp1, ← hp2] at c0 c2
  rw [← hp0, ← hp1] at c3
  obtain ⟨p3, hp3⟩ : ∃ p, p = p0 + p1 := ⟨_, rfl⟩
  rw [← hp3] at c0 c3
  simp only [zC_nat] at c2
  rw [zC_nat] at c0
  rw [rC_cells t1, rC_cells t3] at c1 ⊢
  rw [rC_cells] at c0 ⊢
  unfold zC at c2 c0 c3
  obtain ⟨A1, hA1⟩ : ∃ A, A = digs a.num.natAbs := ⟨_, rfl⟩
  obtain ⟨A2, hA2⟩ : ∃ A, A = digs a.den := ⟨_, rfl⟩
  obtain ⟨B1, hB1⟩ : ∃ A, A = digs b.num.natAbs := ⟨_, rfl⟩
  obtain ⟨B2, hB2⟩ : ∃ A, A = digs b.den := ⟨_, rfl⟩
  obtain ⟨s1, hs1⟩ : ∃ A, A = decide (a.num < 0) := ⟨_, rfl⟩
  obtain ⟨s2, hs2⟩ : ∃ A, A = decide (b.num < 0) := ⟨_, rfl⟩
  obtain ⟨X0, hX0⟩ : ∃ A, A = digs p0.natAbs := ⟨_, rfl⟩
  obtain ⟨X1, hX1⟩ : ∃ A, A = digs p1.natAbs := ⟨_, rfl⟩
  obtain ⟨X2, hX2⟩ : ∃ A, A = digs p2 := ⟨_, rfl⟩
  obtain ⟨X3, hX3⟩ : ∃ A, A = digs p3.natAbs := ⟨_, rfl⟩
  obtain ⟨u0, hu0⟩ : ∃ A, A = decide (p0 < 0) := ⟨_, rfl⟩
  obtain ⟨u1, hu1⟩ : ∃ A, A = decide (p1 < 0) := ⟨_, rfl⟩
  obtain ⟨u3, hu3⟩ : ∃ A, A = decide (p3 < 0) := ⟨_, rfl⟩
  obtain ⟨Y0, hY0⟩ : ∃ A, A = digs (a + b).num.natAbs := ⟨_, rfl⟩
  obtain ⟨Y1, hY1⟩ : ∃ A, A = digs (a + b).den := ⟨_, rfl⟩
  obtain ⟨v0, hv0⟩ : ∃ A, A = decide ((a + b).num < 0) := ⟨_, rfl⟩
  rw [← hA1, ← hA2, ← hs1, ← hB1, ← hB2, ← hs2] at c1
  rw [← hA1, ← hA2, ← hs1, ← hB1, ← hB2, ← hs2, ← hX0, ← hX1, ← hX2, ← hu0, ← hu1] at c2
  rw [← hX0, ← hX1, ← hX3, ← hu0, ← hu1, ← hu3] at c3
  rw [← hX2, ← hX3, ← hu3, ← hY0, ← hY1, ← hv0] at c0
  rw [← hA1, ← hA2, ← hs1, ← hB1, ← hB2, ← hs2, ← hY0, ← hY1, ← hv0]
  have c2 : ∀ st, Rets P F.ratio_products [.list true [.bool s1, intLst t1 A1, .bool false, intLst t4 B2, .bool s2, intLst t3 B1, .bool false, intLst t2 A2, .bool false, intLst t2 A2, .bool false, intLst t4 B2] 6] st (.list false [.bool u0, intLst false X0, .bool u1, intLst false X1, .bool false, intLst false X2] 3) := c2
  have c1 : ∀ st, Rets P F.ratio_valid [.list true [.bool s1, intLst t1 A1, .bool false, intLst t2 A2, .bool s2, intLst t3 B1, .bool false, intLst t4 B2] 2] st (.tuple []) := c1
  have c0 : ∀ st, Rets P F.ratio_pair_lowest [.agg [.bool u3, intLst false X3, .bool false, intLst false X2]] st (.agg [.bool v0, intLst false Y0, .bool false, intLst false Y1]) := c0
  have cd := did_big u3 false X3
  clear hA1 hA2 hB1 hB2 hs1 hs2 hX0 hX1 hX2 hX3 hu0 hu1 hu3 hp0 hp1 hp2 hp3 hY0 hY1 hv0 e1 e2 e3 hd hg h
  refine H.ratio_Add.view hmix rfl rfl ?_
  repeat' (first 
   | (with_reducible refine Fresh.intro fun b hb => ?_) <;> (try simp -dsimp -implicitDefEqProofs [*] at hb)
   | (with_reducible refine Rets.xcall (c1 _) ?_)
   | (with_reducible refine Rets.xcall (c2 _) ?_)
   | (with_reducible refine Rets.xcall (c0 _) ?_)
   | (with_reducible refine Rets.xcall (c3 _) ?_)
   | (with_reducible refine Rets.xcall (cd _) ?_)
   | (with_reducible refine Defs.xdef (rcaught_ret _ _) ?_)
   | (with_reducible refine Lit.imm ?_)
   | (with_reducible refine DrawLate.intro [] ?_)
   | (simp -dsimp -implicitDefEqProofs [H.ratio_caught.enters, *]))
  exact RetView.drop (st' := st) (by repeat' (first | exact StLe.refl _ | (refine StLe_cons (by simp [*]; done) ?_) | (refine StLe_fresh (by simp [*]; done) ?_))) ⟨rfl, rfl⟩
end Go.Proofs.YtliglilanpfjhaaGreat
