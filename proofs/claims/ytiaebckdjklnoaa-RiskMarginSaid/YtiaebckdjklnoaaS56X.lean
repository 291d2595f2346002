/- The reference: whole numbers. -/
import Derived.Test.YtiaebckdjklnoaaS56V
namespace Go.Proofs.Ytiaebckdjklnoaa
open Go.Pv
set_option maxRecDepth 100000
set_option maxHeartbeats 8000000
theorem rCheck_spec (s t : Bool) (L : List Int) (hL : L.length ≤ 100000) (st : Store) : Rets P F.podiumref09_Check [.agg [.bool s, intLst t L]] st (.int (errB (bigOk s L) 90)) := by
  refine H.podiumref09_Check.view hmix rfl rfl ?_
  by_cases h1 : 2048 < L.length
  · have h2 := bigOk_long (s := s) h1
    have h3 : (2048 : Int) < L.length := by omega
    repeat' (first 
     | (with_reducible refine Fresh.intro fun b hb => ?_) <;> (try simp -dsimp -implicitDefEqProofs [*] at hb)
     | (simp -dsimp -implicitDefEqProofs [errB, *]))
    exact RetView.drop (st' := st) (by repeat' (first | exact StLe.refl _ | (refine StLe_cons (by simp [*]; done) ?_) | (refine StLe_fresh (by simp [*]; done) ?_))) ⟨rfl, rfl⟩
  · have h3 : ¬ (2048 : Int) < L.length := by omega
    by_cases h4 : L = []
    · subst h4
      have h5 := bigOk_nil s
      cases s with
      | true =>
        repeat' (first 
         | (with_reducible refine Fresh.intro fun b hb => ?_) <;> (try simp -dsimp -implicitDefEqProofs [*] at hb)
         | (simp -dsimp -implicitDefEqProofs [errB, *]))
        exact RetView.drop (st' := st) (by repeat' (first | exact StLe.refl _ | (refine StLe_cons (by simp [*]; done) ?_) | (refine StLe_fresh (by simp [*]; done) ?_))) ⟨rfl, rfl⟩
      | false =>
        repeat' (first 
         | (with_reducible refine Fresh.intro fun b hb => ?_) <;> (try simp -dsimp -implicitDefEqProofs [*] at hb)
         | (simp -dsimp -implicitDefEqProofs [*]))
        refine xloop_for (fun _ : Unit => [(3, .int 0), (4, .int 0)]) (fun _ => st) (fun _ => True) (fun _ => 0) () trivial (by simp) (by repeat' (first | exact StLe.refl _ | (refine StLe_cons (by simp [*]; done) ?_) | (refine StLe_fresh (by simp [*]; done) ?_))) ?_
        intro _ _
        repeat' (simp -dsimp -implicitDefEqProofs [errB, *])
        exact .same ⟨rfl, rfl⟩
    · have h6 : 0 < L.length := List.length_pos_iff.2 h4
      have h7 := bigOk_cons (s := s) (show L.length ≤ 2048 by omega) h6
      have h8 : ¬ (L.length : Int) = 0 := by omega
      have h6' : (0 : Int) < L.length := by omega
      obtain ⟨j, hj⟩ : ∃ j, j = L.length - 1 := ⟨_, rfl⟩
      have w1 : IntKind.i64.wrap ((L.length : Int) - 1) = (j : Int) := by rw [hj, wrap_in (by omega) (by omega)]; omega
      have hlt : j < L.length := by omega
      have ej : L[L.length - 1] = L[j] := by subst hj; rfl
      rw [ej] at h7
      clear hj ej
      by_cases h9 : L[j] = 0
      · have h7 : bigOk s L = false := by rw [h7, h9]; simp
        cases s with
        | true =>
          repeat' (first 
           | (with_reducible refine Fresh.intro fun b hb => ?_) <;> (try simp -dsimp -implicitDefEqProofs [*] at hb)
           | (simp -dsimp -implicitDefEqProofs [errB, *]))
          exact RetView.drop (st' := st) (by repeat' (first | exact StLe.refl _ | (refine StLe_cons (by simp [*]; done) ?_) | (refine StLe_fresh (by simp [*]; done) ?_))) ⟨rfl, rfl⟩
        | false =>
          repeat' (first 
           | (with_reducible refine Fresh.intro fun b hb => ?_) <;> (try simp -dsimp -implicitDefEqProofs [*] at hb)
           | (simp -dsimp -implicitDefEqProofs [errB, *]))
          exact RetView.drop (st' := st) (by repeat' (first | exact StLe.refl _ | (refine StLe_cons (by simp [*]; done) ?_) | (refine StLe_fresh (by simp [*]; done) ?_))) ⟨rfl, rfl⟩
      · have k7 : Hid (bigOk s L = L.all digOk) := ⟨by rw [h7]; simp [h9]⟩
        clear h7
        have kb : ∀ i (hi : i < L.length), digOk L[i] = false → Hid (bigOk s L = false) := fun i hi h => ⟨by
          rw [k7.out]
          cases ha : L.all digOk with
          | false => rfl
          | true =>
            have := List.all_eq_true.1 ha L[i] (List.getElem_mem hi)
            rw [h] at this; cases this⟩
        repeat' (first 
         | (with_reducible refine Fresh.intro fun b hb => ?_) <;> (try simp -dsimp -implicitDefEqProofs [*] at hb)
         | (simp -dsimp -implicitDefEqProofs [*]))
        refine xloop_for (fun i : Nat => [(1, .ptr b 0), (3, .int L.length), (4, .int i)]) (fun _ => (b, .arr T.apiBig [.bool s, intLst t L]) :: st) (fun i => i ≤ L.length ∧ Hid (∀ j (h : j < L.length), j < i → digOk L[j] = true)) (fun i => L.length - i) 0 ⟨Nat.zero_le _, ⟨fun j _ h => absurd h (by omega)⟩⟩ (by simp) (.refl _) ?_
        rintro i ⟨hi, hA⟩
        by_cases hil : i < L.length
        · have x5 := wrap_succ (n := i) (by omega)
          have kb := kb i hil
          by_cases n1 : L[i] < 0
          · have kF := kb (by simp [digOk]; omega)
            clear kb
            repeat' (simp -dsimp -implicitDefEqProofs [*])
            exact RetView.drop (st' := st) (by repeat' (first | exact StLe.refl _ | (refine StLe_cons (by simp [*]; done) ?_) | (refine StLe_fresh (by simp [*]; done) ?_))) ⟨by rw [kF.out]; rfl, rfl⟩
          · by_cases n2 : 1073741824 ≤ L[i]
            · have kF := kb (by simp [digOk]; omega)
              clear kb
              repeat' (simp -dsimp -implicitDefEqProofs [*])
              exact RetView.drop (st' := st) (by repeat' (first | exact StLe.refl _ | (refine StLe_cons (by simp [*]; done) ?_) | (refine StLe_fresh (by simp [*]; done) ?_))) ⟨by rw [kF.out]; rfl, rfl⟩
            · clear kb
              have hA2 : Hid (∀ j (h : j < L.length), j < i + 1 → digOk L[j] = true) := ⟨fun j hj hji => by
                by_cases e : j = i
                · subst e; simp [digOk]; omega
                · exact hA.out j hj (by omega)⟩
              clear hA
              repeat' (simp -dsimp -implicitDefEqProofs [*])
              exact Next.intro (i + 1) ⟨by omega, hA2⟩ (by omega) (by simp) (.refl _)
        · have kT : Hid (bigOk s L = true) := ⟨by
            rw [k7.out, List.all_eq_true]
            intro x hx
            obtain ⟨j, hj, rfl⟩ := List.getElem_of_mem hx
            exact hA.out j hj (by omega)⟩
          clear kb
          repeat' (simp -dsimp -implicitDefEqProofs [*])
          exact RetView.drop (st' := st) (by repeat' (first | exact StLe.refl _ | (refine StLe_cons (by simp [*]; done) ?_) | (refine StLe_fresh (by simp [*]; done) ?_))) ⟨by rw [kT.out]; rfl, rfl⟩
theorem rTwo_spec (s1 t1 s2 t2 : Bool) (L1 L2 : List Int) (h1 : bigOk s1 L1 = true) (h2 : bigOk s2 L2 = true) (hl1 : L1.length ≤ 100000) (hl2 : L2.length ≤ 100000) (st : Store) : Rets P F.podiumref09_two [.agg [.bool s1, intLst t1 L1], .agg [.bool s2, intLst t2 L2]] st (.int 0) := by
  have c1 := rCheck_spec s1 t1 L1 hl1
  have c2 := rCheck_spec s2 t2 L2 hl2
  rw [h1] at c1
  rw [h2] at c2
  have c1 : ∀ st, Rets P F.podiumref09_Check [.agg [.bool s1, intLst t1 L1]] st (.int 0) := c1
  have c2 : ∀ st, Rets P F.podiumref09_Check [.agg [.bool s2, intLst t2 L2]] st (.int 0) := c2
  clear h1 h2
  refine H.podiumref09_two.pure hmix rfl rfl ?_
  repeat' (first 
   | (with_reducible refine Fresh.intro fun b hb => ?_) <;> (try simp -dsimp -implicitDefEqProofs [*] at hb)
   | (with_reducible refine Rets.xcall (c1 _) ?_)
   | (with_reducible refine Rets.xcall (c2 _) ?_)
   | (simp -dsimp -implicitDefEqProofs [*]))
theorem rOf_spec (s t : Bool) (n : Nat) (hn : dl n ≤ 2048) (st : Store) : Rets P F.podiumref09_of [.bool s, intLst t (digs n)] st (.tuple [.agg [.bool (s && decide (n ≠ 0)), intLst false (digs n)], .int 0]) := by
  refine H.podiumref09_of.view hmix rfl rfl ?_
  have ht := rtrim_spec t (digs n) (by unfold dl at hn; omega)
  rw [trimD_digs] at ht
  have hl : (digs n).length ≤ 2048 := hn
  have n1 : ¬ (2048 : Int) < (digs n).length := by omega
  cases s with
  | false =>
    repeat' (first 
     | (with_reducible refine Fresh.intro fun b hb => ?_) <;> (try simp -dsimp -implicitDefEqProofs [*] at hb)
     | (with_reducible refine Rets.xcall (ht _) ?_)
     | (simp -dsimp -implicitDefEqProofs [*]))
    exact .drop (by simp [*]) ⟨rfl, rfl⟩
  | true =>
    by_cases h0 : n = 0
    · subst h0
      rw [digs_zero] at ht n1 ⊢
      repeat' (first 
       | (with_reducible refine Fresh.intro fun b hb => ?_) <;> (try simp -dsimp -implicitDefEqProofs [*] at hb)
       | (with_reducible refine Rets.xcall (ht _) ?_)
       | (simp -dsimp -implicitDefEqProofs [*]))
      exact .drop (by simp [*]) ⟨rfl, rfl⟩
    · have := dl_pos h0
      have h1 : 0 < (digs n).length := this
      repeat' (first 
       | (with_reducible refine Fresh.intro fun b hb => ?_) <;> (try simp -dsimp -implicitDefEqProofs [*] at hb)
       | (with_reducible refine Rets.xcall (ht _) ?_)
       | (simp -dsimp -implicitDefEqProofs [*]))
      exact .drop (by simp [*]) ⟨rfl, rfl⟩
theorem rGcd_spec (t u : Bool) (v w : Int) (ha : dl v.natAbs ≤ 2048) (hb : dl w.natAbs ≤ 2048) (st : Store) : Rets P F.podiumref09_Gcd [.agg (zC t v), .agg (zC u w)] st (.tuple [.agg (zC false (Nat.gcd v.natAbs w.natAbs : Nat)), .int 0]) := by
  have hc := rTwo_spec _ t _ u _ _ (zOk v ha) (zOk w hb) (by unfold dl at ha; omega) (by unfold dl at hb; omega)
  obtain ⟨x, hx⟩ : ∃ x, x = v.natAbs := ⟨_, rfl⟩
  obtain ⟨y, hy⟩ : ∃ y, y = w.natAbs := ⟨_, rfl⟩
  rw [zC_nat]
  unfold zC
  rw [← hx] at hc ha
  rw [← hy] at hc hb
  rw [← hx, ← hy]
  clear hx hy
  refine H.podiumref09_Gcd.view hmix rfl rfl ?_
  repeat' (first 
   | (with_reducible refine Fresh.intro fun b hb => ?_) <;> (try simp -dsimp -implicitDefEqProofs [*] at hb)
   | (with_reducible refine Rets.xcall (hc _) ?_)
   | (simp -dsimp -implicitDefEqProofs [*]))
  revert b
  revert b
  revert b
  intro p2 h2 p3 h3 p4 h4
  refine xloop_for (fun y : Bool × Bool × Nat × Nat => [(4, .ptr p4 0), (7, intLst y.1 (digs y.2.2.1)), (8, intLst y.2.1 (digs y.2.2.2))]) (fun _ => (p4, .arr T.apiBig [.bool false, .nil]) :: (p3, .arr T.apiBig [.bool (decide (w < 0)), intLst u (digs y)]) :: (p2, .arr T.apiBig [.bool (decide (v < 0)), intLst t (digs x)]) :: st)
    (fun z => dl z.2.2.1 ≤ 2048 ∧ dl z.2.2.2 ≤ 2048 ∧ Hid (Nat.gcd z.2.2.1 z.2.2.2 = Nat.gcd x y)) (fun z => z.2.2.2) (t, u, x, y) ⟨ha, hb, ⟨rfl⟩⟩ (by simp) (.refl _) ?_
  rintro ⟨t1, u1, m, n⟩ ⟨hm, hn, hg⟩
  simp only at hm hn hg
  clear ha hb hc
  by_cases hn0 : n = 0
  · subst hn0
    have hg2 : m = Nat.gcd x y := by have := hg.out; rwa [Nat.gcd_zero_right] at this
    have hbig := rOf_spec false t1 m hm
    rw [← hg2, digs_zero]
    clear hg hg2 hn
    repeat' (first 
     | (with_reducible refine Rets.xcall (hbig _) ?_)
     | (simp -dsimp -implicitDefEqProofs [*]))
    exact RetView.drop (st' := st) (by repeat' (first | exact StLe.refl _ | (refine StLe_cons (by simp [*]; done) ?_) | (refine StLe_fresh (by simp [*]; done) ?_))) ⟨rfl, rfl⟩
  · have hd := rdivide_spec t1 u1 m n hn0 (by omega) (by omega)
    have l0 : 0 < (digs n).length := dl_pos hn0
    have hlt := Nat.mod_lt m (show 0 < n by omega)
    have hmn : dl (m % n) ≤ 2048 := Nat.le_trans (dl_mono (Nat.le_of_lt hlt)) hn
    have hg2 : Hid (Nat.gcd n (m % n) = Nat.gcd x y) := ⟨by rw [gcd_step]; exact hg.out⟩
    clear hg
    repeat' (first 
     | (with_reducible refine Rets.xcall (hd _) ?_)
     | (simp -dsimp -implicitDefEqProofs [*]))
    exact Next.intro (u1, false, n, m % n) ⟨hn, hmn, hg2⟩ hlt (by simp) (.refl _)
end Go.Proofs.Ytiaebckdjklnoaa
