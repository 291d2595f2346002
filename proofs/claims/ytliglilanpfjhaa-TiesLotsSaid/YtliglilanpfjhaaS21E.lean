/- Package nat: from the last digit on. -/
import Derived.Test.YtliglilanpfjhaaS21C
import Derived.Test.YtliglilanpfjhaaLRf
namespace Go.Proofs.Ytliglilanpfjhaa
open Go.Pv
set_option maxRecDepth 100000
theorem backward_spec (t : Bool) (L : List Int) (st : Store) : Rets P F.slices_Backward__natdigits_int [intLst t L] st (.func (.func F.slices_Backward__natdigits_int_1) [] [.iptr [intLst t L] 0]) := by
  refine H.slices_Backward__natdigits_int.view hmix rfl rfl ?_
  repeat' (first 
   | (with_reducible refine Fresh.intro fun b hb => ?_) <;> (try simp -dsimp -implicitDefEqProofs [*] at hb)
   | (with_reducible refine RetView.fz 1 ?_ ?_)
   | (with_reducible refine RetView.same ?_)
   | (simp -dsimp -implicitDefEqProofs [*]))
theorem down_spec (t : Bool) (L : List Int) (st : Store) : Rets P F.nat_down [intLst t L] st (.func (.func F.slices_Backward__natdigits_int_1) [] [.iptr [intLst t L] 0]) := by
  refine H.nat_down.pure hmix rfl rfl ?_
  repeat' (first 
   | (with_reducible refine Rets.xcall (backward_spec _ _ _) ?_)
   | (simp -dsimp -implicitDefEqProofs [*]))
theorem backward1_gives (t : Bool) (L : List Int) (hL : L.length ≤ 100000) : GivesN P F.slices_Backward__natdigits_int_1 [] [.iptr [intLst t L] 0] L.length (fun i => [.int ((L.length - 1 - i : Nat) : Int), .int (dAt L (L.length - 1 - i))]) := by
  intro σ S inv fin lp hround s0 hs0
  refine H.slices_Backward__natdigits_int_1.view hmix rfl rfl ?_
  have w0 : IntKind.i64.wrap ((L.length : Int) - 1) = (L.length : Int) - 1 := wrap_in (by omega) (by omega)
  repeat' (simp -dsimp -implicitDefEqProofs [*])
  refine xloop_for (fun y : Nat × σ => [(0, .func (.yield lp) [] []), (1, .iptr [intLst t L] 0), (3, .int ((L.length : Int) - 1 - y.1))]) (fun y => S y.2)
    (fun y => y.1 ≤ L.length ∧ inv y.1 y.2) (fun y => L.length - y.1) (0, s0) ⟨Nat.zero_le _, hs0⟩ (by simp) (.refl _) ?_
  rintro ⟨i, s⟩ ⟨hi, hs⟩
  simp only at hi hs
  by_cases hin : i < L.length
  · obtain ⟨j, hj⟩ : ∃ j, j = L.length - 1 - i := ⟨_, rfl⟩
    have hjl : j < L.length := by omega
    have ej : (L.length : Int) - 1 - i = j := by omega
    have hg := intRow_get L j hjl
    have hr := hround i s hs hin
    simp only [← hj, dAt_lt hjl] at hr
    have kj : Hid (j = L.length - 1 - i) := ⟨hj⟩
    have w1 : IntKind.i64.wrap ((j : Int) - 1) = (L.length : Int) - 1 - (i + 1 : Nat) := by rw [wrap_in (by omega) (by omega)]; omega
    have w2 : (0 : Int) ≤ j := by omega
    clear hj hround hs hs0
    repeat' (simp -dsimp -implicitDefEqProofs [*])
    refine xround_post hr fun e st' hq => ?_
    obtain ⟨s', rfl, ⟨rfl, hi'⟩ | ⟨rfl, hi'⟩⟩ := hq
    · clear hr
      repeat' (simp -dsimp -implicitDefEqProofs [*])
      exact Next.intro (i + 1, s') ⟨by simp only; omega, hi'⟩ (by simp only; omega) (by simp) (.refl _)
    · clear hr
      repeat' (simp -dsimp -implicitDefEqProofs [*])
      exact .same ⟨rfl, s', rfl, .inr hi'⟩
  · have e : i = L.length := by omega
    subst e
    clear hround
    have w2 : ¬ (0 : Int) ≤ (L.length : Int) - 1 - L.length := by omega
    repeat' (first 
     | (with_reducible refine And.intro (fun h => ?_) (fun h => ?_)) <;> (try (exfalso; omega))
     | (simp -dsimp -implicitDefEqProofs [*]))
    exact .same ⟨rfl, s, rfl, .inl hs⟩
/-- How numbers are compared. -/
def cmpN (a b : Nat) : Int := if a < b then -1 else if b < a then 1 else 0
theorem cmpN_len {x y : Nat} (h : ¬ dl x = dl y) : cmpN x y = if dl x < dl y then -1 else 1 := by
  unfold cmpN
  have h1 := dl_mono (n := x) (m := y)
  have h2 := dl_mono (n := y) (m := x)
  by_cases hx : x < y
  · rw [if_pos hx, if_pos (by have := h1 (by omega); omega)]
  · by_cases hy : y < x
    · rw [if_neg hx, if_pos hy, if_neg (by have := h2 (by omega); omega)]
    · have : x = y := by omega
      subst this; exact absurd rfl h
theorem cmpN_top {x y j : Nat} (hl : dl x = dl y) (hj : j < dl x) (hd : (digs x).drop (j + 1) = (digs y).drop (j + 1)) : (dAt (digs x) j < dAt (digs y) j → cmpN x y = -1) ∧ (dAt (digs y) j < dAt (digs x) j → cmpN x y = 1) := by
  have hjx : j < (digs x).length := hj
  have hjy : j < (digs y).length := by unfold dl at hl; omega
  rw [dAt_lt hjx, dAt_lt hjy]
  constructor
  · intro h
    have := dv_top_lt (digs_ok x) (digs_ok y) hjx hjy hd h
    rw [dv_digs, dv_digs] at this
    unfold cmpN
    rw [if_pos (by omega)]
  · intro h
    have := dv_top_lt (digs_ok y) (digs_ok x) hjy hjx hd.symm h
    rw [dv_digs, dv_digs] at this
    unfold cmpN
    rw [if_neg (by omega), if_pos (by omega)]
theorem compare_spec (t u : Bool) (x y : Nat) (hla : dl x ≤ 100000) (hlb : dl y ≤ 100000) (st : Store) : Rets P F.nat_compare [intLst t (digs x), intLst u (digs y)] st (.int (cmpN x y)) := by
  refine H.nat_compare.view hmix rfl rfl ?_
  by_cases hl : dl x = dl y
  · have hl2 : ((digs x).length : Int) = (digs y).length := by unfold dl at hl; omega
    have hl3 : (digs x).length = (digs y).length := hl
    have hent := H.slices_Backward__natdigits_int_1.enters
    repeat' (first 
     | (with_reducible refine Fresh.intro fun b hb => ?_) <;> (try simp -dsimp -implicitDefEqProofs [*] at hb)
     | (with_reducible refine Rets.xcall (down_spec _ _ _) ?_)
     | (simp -dsimp -implicitDefEqProofs [*]))
    revert b
    revert b
    intro q hq r hr
    refine xrange_func hent fun key hkey lp hlp => ?_
    simp -dsimp -implicitDefEqProofs [*] at hlp
    have kD : ∀ j, j < dl x → Hid ((digs x).drop (j + 1) = (digs y).drop (j + 1) → (dAt (digs x) j < dAt (digs y) j → cmpN x y = -1) ∧ (dAt (digs y) j < dAt (digs x) j → cmpN x y = 1)) := fun j hj => ⟨cmpN_top hl hj⟩
    refine xcall_post (backward1_gives t (digs x) hla (Option Int) (fun o => (lp, .loop key _ (lsR o) (lpR o)) :: (r, .arr T.int [.int (o.getD 0)]) :: (q, .arr T.natdigits [intLst u (digs y)]) :: st)
      (fun i o => o = none ∧ Hid ((digs x).drop ((digs x).length - i) = (digs y).drop ((digs x).length - i))) (fun o => o = some (cmpN x y)) lp ?_ none ⟨rfl, ⟨by simp [hl3]⟩⟩) ?_
    · rintro i o ⟨rfl, hi⟩ hil
      simp only
      obtain ⟨j, hj⟩ : ∃ j, j = (digs x).length - 1 - i := ⟨_, rfl⟩
      have hjl : j < (digs x).length := by omega
      have hjl2 : j < (digs y).length := by omega
      rw [← hj, dAt_lt hjl]
      have hg := intRow_get (digs y) j hjl2
      have k1 := (kD j hjl).out (by have := hi.out; rwa [show (digs x).length - i = j + 1 by omega] at this)
      rw [dAt_lt hjl, dAt_lt hjl2] at k1
      have k2 : Hid ((digs x)[j] = (digs y)[j] → (digs x).drop ((digs x).length - (i + 1)) = (digs y).drop ((digs x).length - (i + 1))) := ⟨fun e => by
        rw [show (digs x).length - (i + 1) = j by omega, List.drop_eq_getElem_cons hjl, List.drop_eq_getElem_cons hjl2, e]
        have := hi.out; rw [show (digs x).length - i = j + 1 by omega] at this; rw [this]⟩
      clear kD hi hj hla hlb hl hil
      refine pround_walkS hmix hkey (by simp; rfl) rfl ?_
      clear hkey
      by_cases h1 : (digs x)[j] < (digs y)[j]
      · have e := k1.1 h1
        clear k1 k2
        repeat' (simp -dsimp -implicitDefEqProofs [*])
      · by_cases h2 : (digs y)[j] < (digs x)[j]
        · have e := k1.2 h2
          clear k1 k2
          repeat' (simp -dsimp -implicitDefEqProofs [*])
        · have e : Hid _ := ⟨k2.out (by omega)⟩
          clear k1 k2
          repeat' (simp -dsimp -implicitDefEqProofs [*])
          exact ⟨_, StLe.refl _, none, rfl, rfl, ⟨by rw [← hl3]; exact e.out⟩⟩
    · rintro e st' ⟨rfl, o, rfl, ⟨rfl, h⟩ | rfl⟩
      · clear kD
        have : cmpN x y = 0 := by
          have h := h.out
          rw [Nat.sub_self, List.drop_zero, List.drop_zero] at h
          have := digs_inj h
          subst this
          simp [cmpN]
        clear h
        repeat' (simp -dsimp -implicitDefEqProofs [*])
        exact .drop (by simp [*]) ⟨rfl, rfl⟩
      · clear kD
        repeat' (simp -dsimp -implicitDefEqProofs [*])
        exact .drop (by simp [*]) ⟨rfl, rfl⟩
  · have hc := cmpN_len hl
    have hl2 : ¬ ((digs x).length : Int) = (digs y).length := by unfold dl at hl; omega
    unfold dl at hc hl hla hlb
    have w1 : IntKind.i64.wrap (((digs x).length : Int) - (digs y).length) = ((digs x).length : Int) - (digs y).length := wrap_in (by omega) (by omega)
    by_cases h : (digs x).length < (digs y).length
    · rw [if_pos h] at hc
      have n1 : ¬ (digs y).length < (digs x).length := by omega
      repeat' (first 
       | (with_reducible refine Fresh.intro fun b hb => ?_) <;> (try simp -dsimp -implicitDefEqProofs [*] at hb)
       | (simp -dsimp -implicitDefEqProofs [*]))
      exact .drop (by simp [*]) ⟨rfl, rfl⟩
    · rw [if_neg h] at hc
      have n1 : (digs y).length < (digs x).length := by omega
      have n2 : ¬ ((digs x).length : Int) - (digs y).length < 1 := by omega
      repeat' (first 
       | (with_reducible refine Fresh.intro fun b hb => ?_) <;> (try simp -dsimp -implicitDefEqProofs [*] at hb)
       | (simp -dsimp -implicitDefEqProofs [*]))
      exact .drop (by simp [*]) ⟨rfl, rfl⟩
end Go.Proofs.Ytliglilanpfjhaa
/- Package nat: products. -/
namespace Go.Proofs.Ytliglilanpfjhaa
open Go.Pv
set_option maxRecDepth 100000
theorem mul_spec (t u : Bool) (A B : List Int) (a c : Nat) (eA : dv A = a) (eB : dv B = c) (hA : dOk A) (hB : dOk B) (hla : A.length ≤ 50000) (hlb : B.length ≤ 50000) (st : Store) : Rets P F.nat_mul [intLst t A, intLst u B] st (intLst false (digs (a * c))) := by
  refine H.nat_mul.view hmix rfl rfl ?_
  obtain ⟨n, hn⟩ : ∃ n, n = A.length + B.length := ⟨_, rfl⟩
  have w0 : IntKind.i64.wrap ((A.length : Int) + B.length) = n := by rw [hn, wrap_in (by omega) (by omega)]; omega
  have kn : Hid (n = A.length + B.length) := ⟨hn⟩
  have kE : Hid (dv A = a ∧ dv B = c) := ⟨eA, eB⟩
  have hn2 : n ≤ 100000 := by omega
  clear hn eA eB
  repeat' (first 
   | (with_reducible refine Fresh.intro fun b hb => ?_) <;> (try simp -dsimp -implicitDefEqProofs [*] at hb)
   | ((with_reducible refine and_keep ?_ fun hk => ?_); omega)
   | (simp -dsimp -implicitDefEqProofs [*]))
  refine xloop_for (fun y : Nat × List Int => [(1, intLst u B), (5, .own b 0 n n), (18, intLst t A), (19, .int A.length), (20, .int y.1)]) (fun y => (b, .arr T.int (intRow y.2)) :: st) (fun y => y.1 ≤ A.length ∧ Hid (MulInv A B y.2 y.1)) (fun y => A.length - y.1) (0, List.replicate (A.length + B.length) 0) ⟨Nat.zero_le _, ⟨.start A B⟩⟩ (by simp) (by rw [← kn.out, intRow_rep]; exact .refl _) ?_
  rintro ⟨i, m⟩ ⟨hi, hI⟩
  simp only at hi hI
  have lm := hI.out.len
  rw [← kn.out] at lm
  by_cases hin : i < A.length
  · have hg := intRow_get A i hin
    have w1 := wrap_succ (n := i) (by omega)
    by_cases hz : A[i] = 0
    · clear hA hB
      repeat' (simp -dsimp -implicitDefEqProofs [*])
      exact Next.intro (i + 1, m) ⟨by simp only; omega, ⟨hI.out.skip hin hz⟩⟩ (by simp only; omega) (by simp) (by repeat' (first | exact StLe.refl _ | (refine StLe_cons (by simp [*]; done) ?_) | (refine StLe_fresh (by simp [*]; done) ?_)))
    · have kA : Hid (dOk A ∧ dOk B) := ⟨hA, hB⟩
      have hx := dOk_get hA hin
      clear hA hB
      repeat' (simp -dsimp -implicitDefEqProofs [*])
      refine xloop_for (fun y : Nat × List Int × Int => [(1, intLst u B), (5, .own b 0 n n), (18, intLst t A), (19, .int A.length), (20, .int i), (6, .int i), (7, .int A[i]), (8, .int y.2.2), (27, intLst u B), (28, .int B.length), (29, .int y.1)]) (fun y => (b, .arr T.int (intRow y.2.1)) :: st) (fun y => y.1 ≤ B.length ∧ Hid (MulRow A B y.2.1 y.2.2 i y.1 A[i])) (fun y => B.length - y.1) (0, m, 0) ⟨Nat.zero_le _, ⟨hI.out.row _⟩⟩ (by simp) (.refl _) ?_
      rintro ⟨k, r, o⟩ ⟨hk2, hR⟩
      simp only at hk2 hR
      clear hI lm
      have lr := hR.out.len
      rw [← kn.out] at lr
      by_cases hkb : k < B.length
      · obtain ⟨j, hj⟩ : ∃ j, j = i + k := ⟨_, rfl⟩
        have hjl : j < r.length := by have := kn.out; omega
        have w2 : IntKind.i64.wrap ((i : Int) + k) = j := by rw [hj, wrap_in (by omega) (by omega)]; omega
        have hB2 := dOk_get kA.out.2 hkb
        have hr2 := dOk_get hR.out.ok hjl
        have rg := mul_range hx hB2 hr2 ⟨hR.out.o0, hR.out.oB⟩
        have w3 : IntKind.i64.wrap (A[i] * B[k]) = A[i] * B[k] := wrap_in (by omega) (by omega)
        have w4 : IntKind.i64.wrap (r[j] + A[i] * B[k]) = r[j] + A[i] * B[k] := by unfold BB at hr2; exact wrap_in (by omega) (by omega)
        obtain ⟨s, hs⟩ : ∃ s, s = r[j] + A[i] * B[k] + o := ⟨_, rfl⟩
        have w5 : IntKind.i64.wrap (r[j] + A[i] * B[k] + o) = s := by rw [hs]; exact wrap_in (by omega) (by omega)
        have hS : Hid (MulRow A B (r.set j (s % BB)) (s / BB) i (k + 1) A[i]) := ⟨by subst hj; exact hR.out.step kA.out.2 hx hin hkb hs⟩
        have g1 := intRow_get B k hkb
        have g2 := intRow_get r j hjl
        have w6 := wrap_succ (n := k) (by omega)
        have hjn : j < n := by omega
        clear hs hj rg hB2 hr2 hx
        repeat' (first 
         | ((with_reducible refine and_keep ?_ fun hk => ?_); omega)
         | (simp -dsimp -implicitDefEqProofs [*]))
        refine Next.intro (k + 1, r.set j (s % BB), s / BB) ⟨by simp only; omega, hS⟩ (by simp only; omega) (by simp [shr30n]) ?_
        rw [intRow_set]; exact .refl _
      · have e : k = B.length := by omega
        subst e
        obtain ⟨j, hj⟩ : ∃ j, j = i + B.length := ⟨_, rfl⟩
        have hjl : j < r.length := by have := kn.out; omega
        have w2 : IntKind.i64.wrap ((i : Int) + B.length) = j := by rw [hj, wrap_in (by omega) (by omega)]; omega
        have hS : Hid (MulInv A B (r.set j o) (i + 1)) := ⟨by subst hj; exact hR.out.done hin⟩
        have hjn : j < n := by omega
        clear hj hx
        repeat' (first 
         | ((with_reducible refine and_keep ?_ fun hk => ?_); omega)
         | (simp -dsimp -implicitDefEqProofs [*]))
        refine Next.intro (i + 1, r.set j o) ⟨by simp only; omega, hS⟩ (by simp only; omega) (by simp) ?_
        rw [intRow_set]; exact .refl _
  · have e : i = A.length := by omega
    subst e
    clear hA hB
    have hf := hI.out.fin kE.out.1 kE.out.2
    have ht := trim_own b n m [] (by omega) (by omega) ((b, .arr T.int (intRow m)) :: st) (by simp)
    rw [lm] at ht
    rw [← hf]
    clear hf
    repeat' (first 
     | (with_reducible refine Rets.xcall (ht) ?_)
     | (simp -dsimp -implicitDefEqProofs [*]))
    exact .trim0 hb (by omega) (by omega) (.same ⟨rfl, rfl⟩)
end Go.Proofs.Ytliglilanpfjhaa
