/- The reference: digits. -/
import Derived.Test.YtliglilanpfjhaaS21P
import Derived.Test.YtliglilanpfjhaaLRg
namespace Go.Proofs.Ytliglilanpfjhaa
open Go.Pv
set_option maxRecDepth 100000
set_option maxHeartbeats 4000000
theorem rtrim_spec (t : Bool) (L : List Int) (hL : L.length ≤ 100000) (st : Store) : Rets P F.podiumref09_trim [intLst t L] st (intLst false (trimD L)) := by
  refine H.podiumref09_trim.view hmix rfl rfl ?_
  repeat' (simp -dsimp -implicitDefEqProofs [*])
  refine xloop_for (fun n : Nat => [(0, intLst t L), (3, .int n)]) (fun _ => st) (fun n => n ≤ L.length ∧ trimD (L.take n) = trimD L) (fun n => n) L.length ⟨Nat.le_refl _, by rw [List.take_of_length_le (Nat.le_refl _)]⟩ (by simp) (.refl _) ?_
  rintro n ⟨hn, he⟩
  by_cases h0 : n = 0
  · subst h0
    have he : trimD L = [] := by rw [← he]; rfl
    repeat' (simp -dsimp -implicitDefEqProofs [*])
    exact .same ⟨rfl, rfl⟩
  · obtain ⟨m, rfl⟩ : ∃ m, n = m + 1 := ⟨n - 1, by omega⟩
    have hml : m < L.length := by omega
    have hg := intRow_get L m hml
    have w1 : IntKind.i64.wrap (m : Int) = m := wrap_in (by omega) (by omega)
    have p1 : (0 : Int) < (m : Int) + 1 := by omega
    by_cases hz : L[m] = 0
    · have he2 : Hid (trimD (L.take m) = trimD L) := ⟨by rw [← he, trimD_less hml hz]⟩
      clear he
      repeat' (simp -dsimp -implicitDefEqProofs [*])
      exact Next.intro m ⟨by omega, he2.out⟩ (by omega) (by simp) (by repeat' (first | exact StLe.refl _ | (refine StLe_cons (by simp [*]; done) ?_) | (refine StLe_fresh (by simp [*]; done) ?_)))
    · have he2 : Hid (trimD L = L.take (m + 1)) := ⟨by rw [← he]; exact trimD_full (by omega) fun _ => hz⟩
      clear he
      repeat' (first 
       | ((with_reducible refine and_keep ?_ fun hk => ?_); omega)
       | (simp -dsimp -implicitDefEqProofs [*]))
      refine .same ⟨?_, rfl⟩
      rw [he2.out]; simp [intLst, intRow, List.map_take, Nat.min_eq_left hn]
theorem rtrim_own (b cap : Nat) (L : List Int) (C : List PV) (hL : L.length ≤ 100000) (hc : L.length ≤ cap) (st : Store) (hb : sget st b = some (.arr T.int (intRow L ++ C))) : Rets P F.podiumref09_trim [.own b 0 L.length cap] st (.own b 0 (trimD L).length cap) := by
  refine H.podiumref09_trim.view hmix rfl rfl ?_
  repeat' (simp -dsimp -implicitDefEqProofs [*])
  refine xloop_for (fun n : Nat => [(0, .own b 0 L.length cap), (3, .int n)]) (fun _ => st) (fun n => n ≤ L.length ∧ trimD (L.take n) = trimD L) (fun n => n) L.length ⟨Nat.le_refl _, by rw [List.take_of_length_le (Nat.le_refl _)]⟩ (by simp) (.refl _) ?_
  rintro n ⟨hn, he⟩
  by_cases h0 : n = 0
  · subst h0
    have he : trimD L = [] := by rw [← he]; rfl
    repeat' (simp -dsimp -implicitDefEqProofs [*])
    exact .same ⟨rfl, rfl⟩
  · obtain ⟨m, rfl⟩ : ∃ m, n = m + 1 := ⟨n - 1, by omega⟩
    have hml : m < L.length := by omega
    have hg : (intRow L ++ C)[m]? = some (.int L[m]) := by rw [List.getElem?_append_left (by simpa using hml)]; exact intRow_get L m hml
    have w1 : IntKind.i64.wrap (m : Int) = m := wrap_in (by omega) (by omega)
    have p1 : (0 : Int) < (m : Int) + 1 := by omega
    by_cases hz : L[m] = 0
    · have he2 : Hid (trimD (L.take m) = trimD L) := ⟨by rw [← he, trimD_less hml hz]⟩
      clear he
      repeat' (simp -dsimp -implicitDefEqProofs [*])
      exact Next.intro m ⟨by omega, he2.out⟩ (by omega) (by simp) (by repeat' (first | exact StLe.refl _ | (refine StLe_cons (by simp [*]; done) ?_) | (refine StLe_fresh (by simp [*]; done) ?_)))
    · have he2 : Hid (trimD L = L.take (m + 1)) := ⟨by rw [← he]; exact trimD_full (by omega) fun _ => hz⟩
      clear he
      repeat' (first 
       | ((with_reducible refine and_keep ?_ fun hk => ?_); omega)
       | (simp -dsimp -implicitDefEqProofs [*]))
      refine .same ⟨?_, rfl⟩
      rw [he2.out]; simp [Nat.min_eq_left hn]
theorem rtimes_spec (t u : Bool) (A B : List Int) (a c : Nat) (eA : dv A = a) (eB : dv B = c) (hA : dOk A) (hB : dOk B) (hla : A.length ≤ 50000) (hlb : B.length ≤ 50000) (st : Store) : Rets P F.podiumref09_times [intLst t A, intLst u B] st (intLst false (digs (a * c))) := by
  refine H.podiumref09_times.view hmix rfl rfl ?_
  obtain ⟨n, hn⟩ : ∃ n, n = A.length + B.length := ⟨_, rfl⟩
  have w0 : IntKind.i64.wrap ((A.length : Int) + B.length) = n := by rw [hn, wrap_in (by omega) (by omega)]; omega
  have kn : Hid (n = A.length + B.length) := ⟨hn⟩
  have kE : Hid (dv A = a ∧ dv B = c) := ⟨eA, eB⟩
  have hn2 : n ≤ 100000 := by omega
  clear hn eA eB
  repeat' (first 
   | (with_reducible refine Fresh.intro fun b hb => ?_) <;> (try simp -dsimp -implicitDefEqProofs [*] at hb)
   | ((with_reducible refine and_keep ?_ fun hk => ?_); omega)
   | (simp -dsimp -implicitDefEqProofs [*]))
  refine xloop_for (fun y : Nat × List Int => [(0, intLst t A), (1, intLst u B), (5, .own b 0 n n), (6, .int y.1)]) (fun y => (b, .arr T.int (intRow y.2)) :: st) (fun y => y.1 ≤ A.length ∧ Hid (MulInv A B y.2 y.1)) (fun y => A.length - y.1) (0, List.replicate (A.length + B.length) 0) ⟨Nat.zero_le _, ⟨.start A B⟩⟩ (by simp) (by rw [← kn.out, intRow_rep]; exact .refl _) ?_
  rintro ⟨i, m⟩ ⟨hi, hI⟩
  simp only at hi hI
  have lm := hI.out.len
  rw [← kn.out] at lm
  by_cases hin : i < A.length
  · have hg := intRow_get A i hin
    have w1 := wrap_succ (n := i) (by omega)
    have kA : Hid (dOk A ∧ dOk B) := ⟨hA, hB⟩
    have hx := dOk_get hA hin
    clear hA hB
    repeat' (simp -dsimp -implicitDefEqProofs [*])
    refine xloop_for (fun y : Nat × List Int × Int => [(0, intLst t A), (1, intLst u B), (5, .own b 0 n n), (6, .int i), (7, .int y.2.2), (8, .int y.1)]) (fun y => (b, .arr T.int (intRow y.2.1)) :: st) (fun y => y.1 ≤ B.length ∧ Hid (MulRow A B y.2.1 y.2.2 i y.1 A[i])) (fun y => B.length - y.1) (0, m, 0) ⟨Nat.zero_le _, ⟨hI.out.row _⟩⟩ (by simp) (.refl _) ?_
    rintro ⟨k, r, o⟩ ⟨hk2, hR⟩
    simp only at hk2 hR
    clear hI lm
    have lr := hR.out.len
    rw [← kn.out] at lr
    by_cases hkb : k < B.length
    · obtain ⟨j, hj⟩ : ∃ j, j = i + k := ⟨_, rfl⟩
      have hjl : j < r.length := by have := kn.out; omega
      have w2 : IntKind.i64.wrap ((i : Int) + k) = j := by rw [hj, wrap_in (by omega) (by omega)]; omega
      have hB2 := dOk_get kA.out.2 hkb
      have hr2 := dOk_get hR.out.ok hjl
      have rg := mul_range hx hB2 hr2 ⟨hR.out.o0, hR.out.oB⟩
      have w3 : IntKind.i64.wrap (A[i] * B[k]) = A[i] * B[k] := wrap_in (by omega) (by omega)
      have w4 : IntKind.i64.wrap (r[j] + A[i] * B[k]) = r[j] + A[i] * B[k] := by unfold BB at hr2; exact wrap_in (by omega) (by omega)
      obtain ⟨s, hs⟩ : ∃ s, s = r[j] + A[i] * B[k] + o := ⟨_, rfl⟩
      have w5 : IntKind.i64.wrap (r[j] + A[i] * B[k] + o) = s := by rw [hs]; exact wrap_in (by omega) (by omega)
      have hS : Hid (MulRow A B (r.set j (s % BB)) (s / BB) i (k + 1) A[i]) := ⟨by subst hj; exact hR.out.step kA.out.2 hx hin hkb hs⟩
      have g1 := intRow_get B k hkb
      have g2 := intRow_get r j hjl
      have w6 := wrap_succ (n := k) (by omega)
      have hjn : j < n := by omega
      have sn : 0 ≤ s := by rw [hs]; omega
      have t1 : s.tmod 1073741824 = s % BB := Int.tmod_eq_emod_of_nonneg sn
      have t2 : s.tdiv 1073741824 = s / BB := Int.tdiv_eq_ediv_of_nonneg sn
      have t3 : IntKind.i64.wrap (s / BB) = s / BB := by unfold BB; exact wrap_in (by omega) (by omega)
      clear hs hj rg hB2 hr2 hx sn
      repeat' (first 
       | ((with_reducible refine and_keep ?_ fun hk => ?_); omega)
       | (simp -dsimp -implicitDefEqProofs [*]))
      refine Next.intro (k + 1, r.set j (s % BB), s / BB) ⟨by simp only; omega, hS⟩ (by simp only; omega) (by simp) ?_
      rw [intRow_set]; exact .refl _
    · have e : k = B.length := by omega
      subst e
      obtain ⟨j, hj⟩ : ∃ j, j = i + B.length := ⟨_, rfl⟩
      have hjl : j < r.length := by have := kn.out; omega
      have w2 : IntKind.i64.wrap ((i : Int) + B.length) = j := by rw [hj, wrap_in (by omega) (by omega)]; omega
      have hS : Hid (MulInv A B (r.set j o) (i + 1)) := ⟨by subst hj; exact hR.out.done hin⟩
      have hjn : j < n := by omega
      clear hj hx
      repeat' (first 
       | ((with_reducible refine and_keep ?_ fun hk => ?_); omega)
       | (simp -dsimp -implicitDefEqProofs [*]))
      refine Next.intro (i + 1, r.set j o) ⟨by simp only; omega, hS⟩ (by simp only; omega) (by simp) ?_
      rw [intRow_set]; exact .refl _
  · have e : i = A.length := by omega
    subst e
    clear hA hB
    have hf := hI.out.fin kE.out.1 kE.out.2
    have ht := rtrim_own b n m [] (by omega) (by omega) ((b, .arr T.int (intRow m)) :: st) (by simp)
    rw [lm] at ht
    rw [← hf]
    clear hf
    repeat' (first 
     | (with_reducible refine Rets.xcall (ht) ?_)
     | (simp -dsimp -implicitDefEqProofs [*]))
    exact .trim0 hb (by omega) (by omega) (.same ⟨rfl, rfl⟩)
theorem rdigit_spec (t : Bool) (L : List Int) (i : Nat) (st : Store) : Rets P F.podiumref09_digit [intLst t L, .int i] st (.int (dAt L i)) := by
  refine H.podiumref09_digit.pure hmix rfl rfl ?_
  by_cases h : i < L.length
  · have hg := intRow_get L i h
    have e := dAt_lt h
    repeat' (simp -dsimp -implicitDefEqProofs [*])
  · have e := dAt_ge (l := L) (i := i) (by omega)
    repeat' (simp -dsimp -implicitDefEqProofs [*])
theorem rcmp_spec (t u : Bool) (x y : Nat) (_hla : dl x ≤ 100000) (hlb : dl y ≤ 100000) (st : Store) : Rets P F.podiumref09_cmp [intLst t (digs x), intLst u (digs y)] st (.int (cmpN x y)) := by
  refine H.podiumref09_cmp.view hmix rfl rfl ?_
  by_cases hl : dl x = dl y
  · have hl3 : (digs x).length = (digs y).length := hl
    have hl2 : ((digs x).length : Int) = (digs y).length := by rw [hl3]
    have w0 : IntKind.i64.wrap (((digs y).length : Int) - 1) = ((digs y).length : Int) - 1 := wrap_in (by unfold dl at hlb; omega) (by unfold dl at hlb; omega)
    have kD : Hid (∀ j, j < dl x → (digs x).drop (j + 1) = (digs y).drop (j + 1) → (dAt (digs x) j < dAt (digs y) j → cmpN x y = -1) ∧ (dAt (digs y) j < dAt (digs x) j → cmpN x y = 1)) := ⟨fun j hj => cmpN_top hl hj⟩
    repeat' (simp -dsimp -implicitDefEqProofs [*])
    refine xloop_for (fun n : Nat => [(0, intLst t (digs x)), (1, intLst u (digs y)), (5, .int ((n : Int) - 1))]) (fun _ => st) (fun n => n ≤ (digs y).length ∧ Hid ((digs x).drop n = (digs y).drop n)) (fun n => n) (digs y).length ⟨Nat.le_refl _, ⟨by rw [List.drop_of_length_le (by omega), List.drop_of_length_le (by omega)]⟩⟩ (by simp) (.refl _) ?_
    rintro n ⟨hn, he⟩
    cases n with
    | zero =>
      have e : cmpN x y = 0 := by
        have := digs_inj (n := x) (m := y) he.out
        subst this; simp [cmpN]
      repeat' (simp -dsimp -implicitDefEqProofs [*])
      exact .same ⟨rfl, rfl⟩
    | succ j =>
      have hjx : j < (digs x).length := by omega
      have hjy : j < (digs y).length := by omega
      have k1 := kD.out j hjx he.out
      rw [dAt_lt hjx, dAt_lt hjy] at k1
      have w1 : IntKind.i64.wrap ((j : Int) - 1) = (j : Int) - 1 := wrap_in (by omega) (by unfold dl at hlb; omega)
      have k2 : Hid ((digs x)[j] = (digs y)[j] → (digs x).drop j = (digs y).drop j) := ⟨fun e => by
        rw [List.drop_eq_getElem_cons hjx, List.drop_eq_getElem_cons hjy, e, he.out]⟩
      clear he
      by_cases h1 : (digs x)[j] < (digs y)[j]
      · have e : Hid (cmpN x y = -1) := ⟨k1.1 h1⟩
        clear k1 k2
        repeat' (simp -dsimp -implicitDefEqProofs [*])
        exact .same ⟨by rw [e.out], rfl⟩
      · by_cases h2 : (digs y)[j] < (digs x)[j]
        · have e : Hid (cmpN x y = 1) := ⟨k1.2 h2⟩
          clear k1 k2
          repeat' (simp -dsimp -implicitDefEqProofs [*])
          exact .same ⟨by rw [e.out], rfl⟩
        · have e : Hid _ := ⟨k2.out (by omega)⟩
          clear k1 k2
          repeat' (simp -dsimp -implicitDefEqProofs [*])
          exact Next.intro j ⟨by omega, e⟩ (by omega) (by simp) (.refl _)
  · have hc := cmpN_len hl
    have hl2 : ¬ ((digs x).length : Int) = (digs y).length := by unfold dl at hl; omega
    unfold dl at hc hl _hla hlb
    by_cases h : (digs x).length < (digs y).length
    · rw [if_pos h] at hc
      repeat' (simp -dsimp -implicitDefEqProofs [*])
      exact .same ⟨rfl, rfl⟩
    · rw [if_neg h] at hc
      have n1 : (digs y).length ≤ (digs x).length := by omega
      repeat' (simp -dsimp -implicitDefEqProofs [*])
      exact .same ⟨rfl, rfl⟩
end Go.Proofs.Ytliglilanpfjhaa
/- The reference: differences, division. -/
namespace Go.Proofs.Ytliglilanpfjhaa
open Go.Pv
set_option maxRecDepth 100000
set_option maxHeartbeats 4000000
theorem rless_spec (t u : Bool) (x y : Nat) (hyx : y ≤ x) (hx : dl x ≤ 20000) (st : Store) : Rets P F.podiumref09_less [intLst t (digs x), intLst u (digs y)] st (intLst false (digs (x - y))) := by
  have hS := subD hyx
  have H : ∃ f : Nat → Int, ∀ i, f i = dAt (digs x) i - dAt (digs y) i := ⟨fun i => dAt (digs x) i - dAt (digs y) i, fun _ => rfl⟩
  obtain ⟨f, hf⟩ := H
  have ef : (fun i => dAt (digs x) i - dAt (digs y) i) = f := funext fun i => (hf i).symm
  rw [ef] at hS
  have kf : Hid (∀ i, f i = dAt (digs x) i - dAt (digs y) i) := ⟨hf⟩
  have ow := carD_owe (digs_ok x) (digs_ok y) hf
  have ow : Hid (∀ i, (carD f i).2 = 0 ∨ (carD f i).2 = -1) := ⟨ow⟩
  rw [← hS]
  have hxl : (digs x).length ≤ 20000 := hx
  have exl : dl x = (digs x).length := rfl
  rw [exl]
  clear ef hf hS exl
  obtain ⟨A, hA⟩ : ∃ A, A = digs x := ⟨_, rfl⟩
  obtain ⟨B, hB⟩ : ∃ A, A = digs y := ⟨_, rfl⟩
  have okA : Hid (dOk A ∧ dOk B) := ⟨by rw [hA, hB]; exact ⟨digs_ok _, digs_ok _⟩⟩
  rw [← hA] at kf hxl ⊢
  rw [← hB] at kf ⊢
  clear hA hB
  refine H.podiumref09_less.view hmix rfl rfl ?_
  repeat' (first 
   | (with_reducible refine Lit.imm ?_)
   | (simp -dsimp -implicitDefEqProofs [-xappend_list, *]))
  refine xloop_for (fun z : Nat × Option (Acc Int) => [(0, intLst t A), (1, intLst u B), (5, accT z.2), (6, .int (-(carD f z.1).2)), (7, .int z.1)]) (fun z => accS T.int st z.2) (fun z => z.1 ≤ A.length ∧ accOk intRow 1 st z.2 ∧ Hid (accL z.2 = (carD f z.1).1)) (fun z => A.length - z.1) (0, none) ⟨Nat.zero_le _, trivial, ⟨rfl⟩⟩ (by simp [carD]) (.refl _) ?_
  rintro ⟨i, o⟩ ⟨hi, ho, hl⟩
  simp only at hi ho hl
  by_cases hin : i < A.length
  · have kn : Hid ((accL o).length ≤ 20000) := ⟨by rw [hl.out, carD_len]; omega⟩
    have y1 := dOk_get okA.out.1 hin
    have y2 := dAt_ok okA.out.2 i
    have e1 := kf.out i
    rw [dAt_lt hin] at e1
    obtain ⟨aj, haj⟩ : ∃ aj, A[i] = aj := ⟨_, rfl⟩
    rw [haj] at y1 e1
    obtain ⟨bj, hbj⟩ : ∃ b, dAt B i = b := ⟨_, rfl⟩
    have cd := rdigit_spec u B i
    rw [hbj] at cd e1 y2
    have ho2 := ow.out i
    unfold BB at y1 y2
    obtain ⟨w, hw⟩ : ∃ w, w = (carD f i).2 := ⟨_, rfl⟩
    obtain ⟨s, hs⟩ : ∃ s, s = f i + (carD f i).2 := ⟨_, rfl⟩
    rw [← hw] at ho2
    have cl := carD_less hs (by rw [hs, e1, ← hw]; omega) (by rw [hs, e1, ← hw]; omega)
    have x1 : IntKind.i64.wrap (aj - bj) = aj - bj := wrap_in (by omega) (by omega)
    have x2 : IntKind.i64.wrap (aj - bj - -w) = s := by rw [hs, e1, ← hw, wrap_in (by omega) (by omega)]; omega
    have x2' : IntKind.i64.wrap (aj - bj + w) = s := by rw [hs, e1, ← hw, wrap_in (by omega) (by omega)]
    have x3 := wrap_succ (n := i) (by omega)
    rw [← hw]
    have sB : -1073741824 ≤ s ∧ s < 1073741824 := by rw [hs, e1, ← hw]; omega
    by_cases hneg : s < 0
    · have x4 : IntKind.i64.wrap (s + 1073741824) = s + 1073741824 := wrap_in (by omega) (by omega)
      have c3 : Hid _ := ⟨cl.1 hneg⟩
      clear cl y1 y2 e1 hw hs hbj ho2
      repeat' (first 
       | (with_reducible refine Rets.xcall (cd _) ?_)
       | (with_reducible refine Lit.imm ?_)
       | (with_reducible refine DrawLate.intro [] ?_)
       | (simp -dsimp -implicitDefEqProofs [-xappend_list, *]))
      refine xappend_accT intRow_len intRow_append o ho [s + 1073741824] (by simp [intRow]) rfl (by omega) (by have := kn.out; omega) fun a ha hab hal => ?_
      have hl2 : Hid (a.l = (carD f (i + 1)).1) := ⟨by rw [hal, c3.out, hl.out]⟩
      have e2 : (carD f (i + 1)).2 = -1 := by rw [c3.out]
      clear hal ho
      repeat' (simp -dsimp -implicitDefEqProofs [-xappend_list, *])
      exact Next.intro (i + 1, some a) ⟨by simp only; omega, ⟨ha, hab⟩, hl2⟩ (by simp only; omega) (by simp [e2]) (by repeat' (first | exact StLe.refl _ | (refine StLe_cons (by simp [*]; done) ?_) | (refine StLe_fresh (by simp [*]; done) ?_)))
    · have c3 : Hid _ := ⟨cl.2 hneg⟩
      clear cl y1 y2 e1 hw hs hbj ho2
      repeat' (first 
       | (with_reducible refine Rets.xcall (cd _) ?_)
       | (with_reducible refine Lit.imm ?_)
       | (with_reducible refine DrawLate.intro [] ?_)
       | (simp -dsimp -implicitDefEqProofs [-xappend_list, *]))
      refine xappend_accT intRow_len intRow_append o ho [s] (by simp [intRow]) rfl (by omega) (by have := kn.out; omega) fun a ha hab hal => ?_
      have hl2 : Hid (a.l = (carD f (i + 1)).1) := ⟨by rw [hal, c3.out, hl.out]⟩
      have e2 : (carD f (i + 1)).2 = 0 := by rw [c3.out]
      clear hal ho
      repeat' (simp -dsimp -implicitDefEqProofs [-xappend_list, *])
      exact Next.intro (i + 1, some a) ⟨by simp only; omega, ⟨ha, hab⟩, hl2⟩ (by simp only; omega) (by simp [e2]) (by repeat' (first | exact StLe.refl _ | (refine StLe_cons (by simp [*]; done) ?_) | (refine StLe_fresh (by simp [*]; done) ?_)))
  · have e : i = A.length := by omega
    subst e
    have ht := rtrim_spec false (accL o) (by rw [hl.out, carD_len]; omega) st
    repeat' (simp -dsimp -implicitDefEqProofs [-xappend_list, *])
    refine xcall_accT (row := intRow) rfl ho ht ?_
    rw [hl.out]
    repeat' (simp -dsimp -implicitDefEqProofs [-xappend_list, *])
    exact .same ⟨rfl, rfl⟩
/-- The greatest digit: so far. -/
structure DivR (x y i : Nat) (Q : List Int) (r : Nat) : Prop where
  len : Q.length = dl x
  ok : dOk Q
  lt : r < y
  val : dv ((digs x).drop i) = dv (Q.drop i) * y + r
end Go.Proofs.Ytliglilanpfjhaa
