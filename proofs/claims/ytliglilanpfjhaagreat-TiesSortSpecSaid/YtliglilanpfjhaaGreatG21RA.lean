/- The reference's comparing of entries. -/
import Derived.Test.YtliglilanpfjhaaGreatG21ZQ
namespace Go.Proofs.YtliglilanpfjhaaGreat
open Go.Pv
set_option maxRecDepth 100000
set_option maxHeartbeats 8000000
theorem ints_spec (a d : Int) (st : Store) : Rets P F.podiumref21_ints [.int a, .int d] st (.int (cmpZ a d)) := by
  refine H.podiumref21_ints.pure hmix rfl rfl ?_
  by_cases h1 : a < d
  · have e : cmpZ a d = -1 := by unfold cmpZ; rw [if_pos h1]
    rw [e]
    repeat' (simp -dsimp -implicitDefEqProofs [*])
  · by_cases h2 : d < a
    · have e : cmpZ a d = 1 := by unfold cmpZ; rw [if_neg h1, if_pos h2]
      rw [e]
      repeat' (simp -dsimp -implicitDefEqProofs [*])
    · have e : cmpZ a d = 0 := by unfold cmpZ; rw [if_neg h1, if_neg h2]
      rw [e]
      repeat' (simp -dsimp -implicitDefEqProofs [*])
theorem ratios_spec (a d : Rw) (ha : a.good = true) (hd : d.good = true) (st : Store) : Rets P F.podiumref21_ratios [a.pv, d.pv] st (.int (cmpR a.val d.val)) := by
  obtain ⟨e1, s1, a1, a2⟩ := Rw.good_ok ha
  obtain ⟨e2, s2, b1, b2⟩ := Rw.good_ok hd
  have c := rCmp10_spec false false false false a.val d.val s1 s2 (Nat.le_trans (by rw [Int.natAbs_mul]; exact dl_mul _ _) (show dl a.val.num.natAbs + dl ((d.val.den : Int)).natAbs ≤ 2048 by have : dl ((d.val.den : Int)).natAbs = dl d.val.den := rfl; omega))
    (Nat.le_trans (by rw [Int.natAbs_mul]; exact dl_mul _ _) (show dl d.val.num.natAbs + dl ((a.val.den : Int)).natAbs ≤ 2048 by have : dl ((a.val.den : Int)).natAbs = dl a.val.den := rfl; omega))
  rw [← e1, ← e2] at c
  obtain ⟨v, hv⟩ : ∃ v, v = cmpR a.val d.val := ⟨_, rfl⟩
  rw [← hv] at c ⊢
  clear e1 e2 s1 s2 a1 a2 b1 b2 hv ha hd
  refine H.podiumref21_ratios.pure hmix rfl rfl ?_
  repeat' (first 
   | (with_reducible refine Fresh.intro fun b hb => ?_) <;> (try simp -dsimp -implicitDefEqProofs [*] at hb)
   | (with_reducible refine Rets.xcall (c _) ?_)
   | (simp -dsimp -implicitDefEqProofs [*]))
theorem by_spec (k : Ke) (a d : Ky) (hk : kOk k.kind = true) (ha : hasK k a = true) (hd : hasK k d = true) (ga : a.good = true) (gd : d.good = true) (st : Store) :
    Rets P F.podiumref21_by [k.pv, a.pv, d.pv] st (.int (cmpR (keyV k a) (keyV k d))) := by
  simp only [Ky.good, Bool.and_eq_true] at ga gd
  rcases kOk_cases hk with h | h | h | h | h
  · unfold hasK at ha hd
    rw [if_pos h] at ha hd
    simp only [Bool.and_eq_true, decide_eq_true_eq] at ha hd
    obtain ⟨n, hn⟩ : ∃ n : Nat, k.n = n := ⟨k.n.toNat, by omega⟩
    have h1 : n < a.totals.length := by omega
    have h2 : n < d.totals.length := by omega
    have c := ratios_spec d.totals[n] a.totals[n] (all_get gd.2.1 n h2) (all_get ga.2.1 n h1)
    have e : cmpR (keyV k a) (keyV k d) = cmpR d.totals[n].val a.totals[n].val := by
      unfold keyV
      rw [if_pos h, if_pos h, cmpR_negneg, hn, show ((n : Int)).toNat = n from rfl, getD_val h1, getD_val h2]
    rw [e]
    have g1 := Rw.row_sub a.totals n h1
    have g2 := Rw.row_sub d.totals n h2
    have l1 : n * 4 < a.totals.length * 4 := by omega
    have l2 : n * 4 < d.totals.length * 4 := by omega
    obtain ⟨v, hv⟩ : ∃ v, v = cmpR d.totals[n].val a.totals[n].val := ⟨_, rfl⟩
    obtain ⟨A, hA⟩ : ∃ v, v = a.totals[n] := ⟨_, rfl⟩
    obtain ⟨B, hB⟩ : ∃ v, v = d.totals[n] := ⟨_, rfl⟩
    rw [← hv] at c ⊢
    rw [← hA] at c g1
    rw [← hB] at c g2
    clear hv e ga gd ha hd hA hB hk
    refine H.podiumref21_by.view hmix rfl rfl ?_
    repeat' (first 
     | (with_reducible refine Fresh.intro fun b hb => ?_) <;> (try simp -dsimp -implicitDefEqProofs [*] at hb)
     | (with_reducible refine Rets.xcall (c _) ?_)
     | (with_reducible refine DrawLate.intro [] ?_)
     | (simp -dsimp -implicitDefEqProofs [-Rw.row_sub, *]))
    exact RetView.drop (st' := st) (by repeat' (first | exact StLe.refl _ | (refine StLe_cons (by simp [*]; done) ?_) | (refine StLe_fresh (by simp [*]; done) ?_))) ⟨rfl, rfl⟩
  · unfold hasK at ha hd
    rw [if_neg (by omega), if_pos h] at ha hd
    simp only [Bool.and_eq_true, decide_eq_true_eq] at ha hd
    obtain ⟨n, hn⟩ : ∃ n : Nat, k.n = n := ⟨k.n.toNat, by omega⟩
    have h1 : n < a.prev.length := by omega
    have h2 : n < d.prev.length := by omega
    have c := ratios_spec d.prev[n] a.prev[n] (all_get gd.2.2 n h2) (all_get ga.2.2 n h1)
    have e : cmpR (keyV k a) (keyV k d) = cmpR d.prev[n].val a.prev[n].val := by
      unfold keyV
      rw [if_neg (by omega), if_pos h, if_neg (by omega), if_pos h, cmpR_negneg, hn, show ((n : Int)).toNat = n from rfl, getD_val h1, getD_val h2]
    rw [e]
    have g1 := Rw.row_sub a.prev n h1
    have g2 := Rw.row_sub d.prev n h2
    have l1 : n * 4 < a.prev.length * 4 := by omega
    have l2 : n * 4 < d.prev.length * 4 := by omega
    obtain ⟨v, hv⟩ : ∃ v, v = cmpR d.prev[n].val a.prev[n].val := ⟨_, rfl⟩
    obtain ⟨A, hA⟩ : ∃ v, v = a.prev[n] := ⟨_, rfl⟩
    obtain ⟨B, hB⟩ : ∃ v, v = d.prev[n] := ⟨_, rfl⟩
    rw [← hv] at c ⊢
    rw [← hA] at c g1
    rw [← hB] at c g2
    clear hv e ga gd ha hd hA hB hk
    refine H.podiumref21_by.view hmix rfl rfl ?_
    repeat' (first 
     | (with_reducible refine Fresh.intro fun b hb => ?_) <;> (try simp -dsimp -implicitDefEqProofs [*] at hb)
     | (with_reducible refine Rets.xcall (c _) ?_)
     | (with_reducible refine DrawLate.intro [] ?_)
     | (simp -dsimp -implicitDefEqProofs [-Rw.row_sub, *]))
    exact RetView.drop (st' := st) (by repeat' (first | exact StLe.refl _ | (refine StLe_cons (by simp [*]; done) ?_) | (refine StLe_fresh (by simp [*]; done) ?_))) ⟨rfl, rfl⟩
  · have e : cmpR (keyV k a) (keyV k d) = cmpZ d.high a.high := by
      unfold keyV
      rw [if_neg (by omega), if_neg (by omega), if_pos h, if_neg (by omega), if_neg (by omega), if_pos h, cmpR_int, cmpZ_negneg]
    rw [e]
    clear ga gd ha hd hk
    refine H.podiumref21_by.view hmix rfl rfl ?_
    repeat' (first 
     | (with_reducible refine Fresh.intro fun b hb => ?_) <;> (try simp -dsimp -implicitDefEqProofs [*] at hb)
     | (with_reducible refine Rets.xcall (ints_spec _ _ _) ?_)
     | (simp -dsimp -implicitDefEqProofs [*]))
    exact RetView.drop (st' := st) (by repeat' (first | exact StLe.refl _ | (refine StLe_cons (by simp [*]; done) ?_) | (refine StLe_fresh (by simp [*]; done) ?_))) ⟨rfl, rfl⟩
  · have e : cmpR (keyV k a) (keyV k d) = cmpZ d.bonus a.bonus := by
      unfold keyV
      rw [if_neg (by omega), if_neg (by omega), if_neg (by omega), if_pos h, if_neg (by omega), if_neg (by omega), if_neg (by omega), if_pos h, cmpR_int, cmpZ_negneg]
    rw [e]
    clear ga gd ha hd hk
    refine H.podiumref21_by.view hmix rfl rfl ?_
    repeat' (first 
     | (with_reducible refine Fresh.intro fun b hb => ?_) <;> (try simp -dsimp -implicitDefEqProofs [*] at hb)
     | (with_reducible refine Rets.xcall (ints_spec _ _ _) ?_)
     | (simp -dsimp -implicitDefEqProofs [*]))
    exact RetView.drop (st' := st) (by repeat' (first | exact StLe.refl _ | (refine StLe_cons (by simp [*]; done) ?_) | (refine StLe_fresh (by simp [*]; done) ?_))) ⟨rfl, rfl⟩
  · have e : cmpR (keyV k a) (keyV k d) = cmpZ a.lot d.lot := by
      unfold keyV
      rw [if_neg (by omega), if_neg (by omega), if_neg (by omega), if_neg (by omega), if_neg (by omega), if_neg (by omega), if_neg (by omega), if_neg (by omega), cmpR_int]
    rw [e]
    clear ga gd ha hd hk
    refine H.podiumref21_by.view hmix rfl rfl ?_
    repeat' (first 
     | (with_reducible refine Fresh.intro fun b hb => ?_) <;> (try simp -dsimp -implicitDefEqProofs [*] at hb)
     | (with_reducible refine Rets.xcall (ints_spec _ _ _) ?_)
     | (simp -dsimp -implicitDefEqProofs [*]))
    exact RetView.drop (st' := st) (by repeat' (first | exact StLe.refl _ | (refine StLe_cons (by simp [*]; done) ?_) | (refine StLe_fresh (by simp [*]; done) ?_))) ⟨rfl, rfl⟩
theorem lexc_end' {l m : List Rat} {i j : Nat} (h1 : l.length ≤ i) : lexc (l.drop i) (m.drop i) j = (0, -1) := by
  rw [List.drop_of_length_le h1]
  cases m.drop i <;> rfl
theorem first21_spec (l : List Ke) (hk : Keys l) (hl : l.length ≤ 100000) (a d : Ky) (ha : wrongK l a = false) (hd : wrongK l d = false) (st : Store) :
    Rets P F.podiumref21_first [Ke.lst l, a.pv, d.pv] st (.tuple [.int (lexc (vec l a) (vec l d) 0).1, .int (lexc (vec l a) (vec l d) 0).2]) := by
  obtain ⟨ka, ga⟩ := right_has ha
  obtain ⟨kd, gd⟩ := right_has hd
  have gas : a.score.good = true := by simp only [Ky.good, Bool.and_eq_true] at ga; exact ga.1
  have gds : d.score.good = true := by simp only [Ky.good, Bool.and_eq_true] at gd; exact gd.1
  have c0 := ratios_spec d.score a.score gds gas
  rw [← cmpR_negneg] at c0
  have hat : Hid (∀ i (hi : i < l.length), ∀ st, Rets P F.podiumref21_by [l[i].pv, a.pv, d.pv] st (.int (cmpR (keyV l[i] a) (keyV l[i] d)))) := ⟨fun i hi st => by_spec l[i] a d (hk _ (List.getElem_mem hi)) (ka _ (List.getElem_mem hi)) (kd _ (List.getElem_mem hi)) ga gd st⟩
  have kR : Hid (lexc (vec l a) (vec l d) 0 = if cmpR (-a.score.val) (-d.score.val) = 0 then lexc (l.map fun k => keyV k a) (l.map fun k => keyV k d) 1 else (cmpR (-a.score.val) (-d.score.val), ((0 : Nat) : Int))) := ⟨rfl⟩
  obtain ⟨r, hr⟩ : ∃ r, r = lexc (vec l a) (vec l d) 0 := ⟨_, rfl⟩
  obtain ⟨c, hc⟩ : ∃ r, r = cmpR (-a.score.val) (-d.score.val) := ⟨_, rfl⟩
  rw [← hr] at kR ⊢
  rw [← hc] at kR c0
  clear hr hc ka kd ga gd gas gds ha hd hk
  refine H.podiumref21_first.view hmix rfl rfl ?_
  by_cases h0 : c = 0
  · have kR : Hid (r = lexc ((l.map fun k => keyV k a).drop 0) ((l.map fun k => keyV k d).drop 0) (0 + 1)) := ⟨by rw [kR.out, if_pos h0]; rfl⟩
    subst h0
    repeat' (first 
     | (with_reducible refine Fresh.intro fun b hb => ?_) <;> (try simp -dsimp -implicitDefEqProofs [*] at hb)
     | (with_reducible refine Rets.xcall (c0 _) ?_)
     | (simp -dsimp -implicitDefEqProofs [*]))
    rename_i b4 h4
    revert b; intro b5 h5
    refine xloop_for (fun n : Nat => [(0, Ke.lst l), (4, .ptr b4 0), (5, .ptr b5 0), (9, .int n)]) (fun _ => (b5, .arr T.apiKeyed d.enc) :: (b4, .arr T.apiKeyed a.enc) :: st) (fun n => n ≤ l.length ∧ Hid (r = lexc ((l.map fun k => keyV k a).drop n) ((l.map fun k => keyV k d).drop n) (n + 1))) (fun n => l.length - n) 0 ⟨Nat.zero_le _, kR⟩ (by simp) (.refl _) ?_
    clear kR c0
    rintro n ⟨hn, hI⟩
    by_cases hnl : n < l.length
    · have ww := wrap_succ (n := n) (by omega)
      have h3 : n * 3 < l.length * 3 := by omega
      have cb := hat.out n hnl
      have g1 := Ke.row_sub l n hnl
      have hs : Hid (r = if cmpR (keyV l[n] a) (keyV l[n] d) = 0 then lexc ((l.map fun k => keyV k a).drop (n + 1)) ((l.map fun k => keyV k d).drop (n + 1)) (n + 1 + 1) else (cmpR (keyV l[n] a) (keyV l[n] d), ((n + 1 : Nat) : Int))) := ⟨by
        rw [hI.out, List.drop_eq_getElem_cons (i := n) (by simpa using hnl), List.drop_eq_getElem_cons (l := l.map fun k => keyV k d) (i := n) (by simpa using hnl), lexc_cons]
        simp only [List.getElem_map]⟩
      obtain ⟨k, hk⟩ : ∃ k, k = l[n] := ⟨_, rfl⟩
      rw [← hk] at cb g1 hs
      obtain ⟨v, hv⟩ : ∃ v, v = cmpR (keyV k a) (keyV k d) := ⟨_, rfl⟩
      rw [← hv] at cb hs
      clear hk hv hat hI
      by_cases hv0 : v = 0
      · subst hv0
        have e : Hid (r = lexc ((l.map fun k => keyV k a).drop (n + 1)) ((l.map fun k => keyV k d).drop (n + 1)) (n + 1 + 1)) := ⟨by rw [hs.out, if_pos rfl]⟩
        clear hs
        repeat' (first 
         | (with_reducible refine Rets.xcall (cb _) ?_)
         | (with_reducible refine DrawLate.intro [] ?_)
         | (simp -dsimp -implicitDefEqProofs [-Ke.row_sub, *]))
        exact Next.intro (n + 1) ⟨by omega, e⟩ (by omega) (by simp) (by repeat' (first | exact StLe.refl _ | (refine StLe_cons (by simp [*]; done) ?_) | (refine StLe_fresh (by simp [*]; done) ?_)))
      · have e : r = (v, ((n + 1 : Nat) : Int)) := by rw [hs.out, if_neg hv0]
        subst e
        clear hs
        repeat' (first 
         | (with_reducible refine Rets.xcall (cb _) ?_)
         | (with_reducible refine DrawLate.intro [] ?_)
         | (simp -dsimp -implicitDefEqProofs [-Ke.row_sub, *]))
        exact RetView.drop (st' := st) (by repeat' (first | exact StLe.refl _ | (refine StLe_cons (by simp [*]; done) ?_) | (refine StLe_fresh (by simp [*]; done) ?_))) ⟨by simp, rfl⟩
    · have e : r = (0, -1) := by rw [hI.out]; exact lexc_end' (by simp; omega)
      subst e
      clear hI hat
      repeat' (simp -dsimp -implicitDefEqProofs [*])
      exact RetView.drop (st' := st) (by repeat' (first | exact StLe.refl _ | (refine StLe_cons (by simp [*]; done) ?_) | (refine StLe_fresh (by simp [*]; done) ?_))) ⟨rfl, rfl⟩
  · have e : r = (c, 0) := by rw [kR.out, if_neg h0]; rfl
    subst e
    clear kR hat
    repeat' (first 
     | (with_reducible refine Fresh.intro fun b hb => ?_) <;> (try simp -dsimp -implicitDefEqProofs [*] at hb)
     | (with_reducible refine Rets.xcall (c0 _) ?_)
     | (simp -dsimp -implicitDefEqProofs [*]))
    exact RetView.drop (st' := st) (by repeat' (first | exact StLe.refl _ | (refine StLe_cons (by simp [*]; done) ?_) | (refine StLe_fresh (by simp [*]; done) ?_))) ⟨rfl, rfl⟩
theorem fewK_lens {l : List Ke} {L : List Ky} (h : fewK l L = true) : l.length ≤ 40 ∧ L.length ≤ 12 ∧ ∀ x ∈ L, Ky.Len x := by
  simp only [fewK, Bool.and_eq_true, List.all_eq_true, decide_eq_true_eq] at h
  exact ⟨h.1.1, h.1.2, fun x hx => fewY_len (h.2 x hx)⟩
theorem Ky.Len.wide {x : Ky} (h : x.Len) : x.Wide := ⟨by have := h.lt; omega, by have := h.lp; omega⟩
end Go.Proofs.YtliglilanpfjhaaGreat
