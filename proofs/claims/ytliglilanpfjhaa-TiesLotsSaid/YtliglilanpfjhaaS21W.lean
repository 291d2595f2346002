/- The reference: division. -/
import Derived.Test.YtliglilanpfjhaaS21U
import Derived.Test.YtliglilanpfjhaaLRg
namespace Go.Proofs.Ytliglilanpfjhaa
open Go.Pv
set_option maxRecDepth 100000
set_option maxHeartbeats 8000000
theorem rdivide_spec (t u : Bool) (x y : Nat) (hy : y ≠ 0) (hx : dl x ≤ 19000) (hy2 : dl y ≤ 19000) (st : Store) : Rets P F.podiumref09_divide [intLst t (digs x), intLst u (digs y)] st (.tuple [intLst false (digs (x / y)), intLst false (digs (x % y))]) := by
  obtain ⟨r0, hr0, R0⟩ := RDiv.start (x := x) hy
  have hxl : (digs x).length = dl x := rfl
  have hyl : (digs y).length = dl y := rfl
  have lp := dl_pos hy
  obtain ⟨s0, hs0⟩ : ∃ s, s = dl x + 1 - dl y := ⟨_, rfl⟩
  rw [← hs0] at hr0 R0
  have hs1 : s0 ≤ dl x := by omega
  obtain ⟨z, hz⟩ : ∃ z, z = (dl x : Int) - dl y + 1 := ⟨_, rfl⟩
  have w0 : IntKind.i64.wrap ((dl x : Int) - dl y) = (dl x : Int) - dl y := wrap_in (by omega) (by omega)
  have w1 : IntKind.i64.wrap ((dl x : Int) - dl y + 1) = z := by rw [← hz]; exact wrap_in (by omega) (by omega)
  have w2 : (if 0 < z then z else 0) = (s0 : Int) := by split <;> omega
  have w3 : IntKind.i64.wrap ((s0 : Int) - 1) = (s0 : Int) - 1 := wrap_in (by omega) (by omega)
  have w4 : ((dl x : Int) - s0).toNat = dl x - s0 := by omega
  have et : trimD ((digs x).drop s0) = digs r0 := trimD_eq (dOk_drop (digs_ok x) _) hr0
  obtain ⟨N, hN⟩ : ∃ N, N = dl x := ⟨_, rfl⟩
  have kR : Hid (RDiv x y s0 (List.replicate N 0) r0) := ⟨by rw [hN]; exact R0⟩
  clear R0 hs0 hz hr0
  refine H.podiumref09_divide.view hmix rfl rfl ?_
  repeat' (first 
   | (with_reducible refine Fresh.intro fun b hb => ?_) <;> (try simp -dsimp -implicitDefEqProofs [*] at hb)
   | (with_reducible refine Lit.imm ?_)
   | ((with_reducible refine and_keep ?_ fun hk => ?_); omega)
   | (simp -dsimp -implicitDefEqProofs [-xappend_list, *]))
  refine xappend_accX (l := []) (xs := (digs x).drop s0) (by rw [intRow_drop]) (by rw [List.length_drop]) (by rw [List.length_drop]; simp; omega) fun o ho hl0 => ?_
  have hl : Hid (accXL [] o = (digs x).drop s0) := ⟨by rw [hl0]; simp⟩
  have ht0 := rtrim_spec false (accXL [] o) (by rw [hl.out, List.length_drop]; omega) ((b, .arr T.int (List.replicate (dl x) (.int 0))) :: st)
  rw [hl.out, et] at ht0
  have ht : Hid _ := ⟨ht0⟩
  clear ht0 hl0
  repeat' (simp -dsimp -implicitDefEqProofs [-xappend_list, *])
  refine xcall_accX ho (by rw [hl.out]; exact ht.out) ?_
  clear ht hl et w0 w1 w2 w4
  repeat' (simp -dsimp -implicitDefEqProofs [-xappend_list, *])
  rw [← hN] at hs1 ⊢
  have kN : Hid (N = dl x) := ⟨hN⟩
  clear hN
  refine xloop_for (fun z : Nat × List Int × Nat => [(0, intLst t (digs x)), (1, intLst u (digs y)), (6, .own b 0 N N), (8, intLst false (digs z.2.2)), (9, .int ((z.1 : Int) - 1))]) (fun z => (b, .arr T.int (intRow z.2.1)) :: st) (fun z => Hid (z.1 ≤ N ∧ RDiv x y z.1 z.2.1 z.2.2)) (fun z => z.1) (s0, List.replicate N 0, r0) ⟨hs1, kR.out⟩ (by simp) (by simp [intRow_rep]) ?_
  rintro ⟨n, Q, r⟩ ⟨hn, hI⟩
  simp only at hn hI ⊢
  clear kR w3 hs1
  cases n with
  | zero =>
    obtain ⟨f1, f2⟩ := hI.fin
    have lQ : Q.length = N := by rw [hI.len, kN.out]
    have ht := rtrim_own b N Q [] (by have := kN.out; omega) (by omega) ((b, .arr T.int (intRow Q)) :: st) (by simp)
    rw [lQ] at ht
    rw [← f1, ← f2]
    clear f1 f2 hI
    repeat' (first 
     | (with_reducible refine Rets.xcall (ht) ?_)
     | (simp -dsimp -implicitDefEqProofs [-xappend_list, *]))
    exact .trimL hb (by omega) (by have := kN.out; omega) (.same ⟨rfl, rfl⟩)
  | succ i =>
    have hix : i < dl x := by have := kN.out; omega
    obtain ⟨d, hd, hd2, hdt⟩ := RDiv.next (x := x) (r := r) hix
    have hskip := hI.skip hix hd hd2
    obtain ⟨hq, hstep⟩ := hI.step hix hd hd2
    have lQ : Q.length = N := by rw [hI.len, kN.out]
    have hr := hI.lt
    have lr : dl r ≤ 19000 := Nat.le_trans (dl_mono (Nat.le_of_lt hr)) hy2
    obtain ⟨p, hp⟩ : ∃ p, p = d + 1073741824 * r := ⟨_, rfl⟩
    rw [hd, ← hp] at hdt
    rw [← hp] at hskip hstep hq
    have hpl : dl p ≤ dl r + 1 := by
      have h2 := trimD_le ((d : Int) :: digs r)
      rw [hdt, List.length_cons] at h2
      exact h2
    have hg : (digs x)[i]'hix = d := hd
    have kS : Hid (RDiv x y i (Q.set i ((p / y : Nat) : Int)) (p % y) ∧ p / y < 1073741824 ∧ (p < y → RDiv x y i Q p)) := ⟨hstep, hq, hskip⟩
    clear hstep hq hskip hI hd hp
    repeat' (first 
     | (with_reducible refine Lit.imm ?_)
     | (simp -dsimp -implicitDefEqProofs [-xappend_list, *]))
    refine xappend_accX (l := [(d : Int)]) (xs := digs r) rfl rfl (by unfold dl at lr; simp; omega) fun o ho hl0 => ?_
    have hl : Hid (accXL [(d : Int)] o = (d : Int) :: digs r) := ⟨by rw [hl0]; rfl⟩
    have ht0 := rtrim_spec false (accXL [(d : Int)] o) (by rw [hl.out, List.length_cons]; unfold dl at lr; omega) ((b, .arr T.int (intRow Q)) :: st)
    rw [hl.out, hdt] at ht0
    have ht : Hid _ := ⟨ht0⟩
    clear ht0 hl0 hdt
    have hcmp := rcmp_spec false u p y (by omega) (by omega)
    repeat' (simp -dsimp -implicitDefEqProofs [-xappend_list, *])
    refine xcall_accX ho (by rw [hl.out]; exact ht.out) ?_
    clear ht hl
    have e1 : cmpN p y < 0 ↔ p < y := by unfold cmpN; split <;> (try split) <;> omega
    obtain ⟨c, hc⟩ : ∃ c, c = cmpN p y := ⟨_, rfl⟩
    rw [← hc] at hcmp e1
    clear hc
    have x6 : IntKind.i64.wrap ((i : Int) - 1) = (i : Int) - 1 := wrap_in (by omega) (by have := kN.out; omega)
    by_cases hlt : p < y
    · have n1 := e1.2 hlt
      clear e1
      repeat' (first 
       | (with_reducible refine Rets.xcall (hcmp _) ?_)
       | (simp -dsimp -implicitDefEqProofs [-xappend_list, *]))
      exact Next.intro (i, Q, p) ⟨by simp only; omega, kS.out.2.2 hlt⟩ (by simp only; omega) (by simp) (by repeat' (first | exact StLe.refl _ | (refine StLe_cons (by simp [*]; done) ?_) | (refine StLe_fresh (by simp [*]; done) ?_)))
    · have n1 : ¬ c < 0 := fun h => hlt (e1.1 h)
      clear e1
      have hlt : Hid (¬ p < y) := ⟨hlt⟩
      repeat' (first 
       | (with_reducible refine Rets.xcall (hcmp _) ?_)
       | (simp -dsimp -implicitDefEqProofs [-xappend_list, *]))
      clear hcmp n1
      refine xloop_for (fun z : Nat × Nat => [(0, intLst t (digs x)), (1, intLst u (digs y)), (6, .own b 0 N N), (8, intLst false (digs p)), (9, .int i), (10, .int z.1), (11, .int z.2)]) (fun _ => (b, .arr T.int (intRow Q)) :: st) (fun z => Hid (z.1 ≤ p / y ∧ p / y ≤ z.2 ∧ z.2 < 1073741824)) (fun z => z.2 - z.1) (0, 1073741823) ⟨Nat.zero_le _, by have := kS.out.2.1; simp only; omega, by decide⟩ (by simp) (.refl _) ?_
      rintro ⟨lo, hi⟩ ⟨hz⟩
      simp only at hz ⊢
      by_cases hlh : lo < hi
      · obtain ⟨mid, hmid⟩ : ∃ m, m = (lo + hi + 1) / 2 := ⟨_, rfl⟩
        have x1 : IntKind.i64.wrap ((lo : Int) + hi) = (lo : Int) + hi := wrap_in (by omega) (by omega)
        have x2 : IntKind.i64.wrap ((lo : Int) + hi + 1) = (lo : Int) + hi + 1 := wrap_in (by omega) (by omega)
        have x3 : ((lo : Int) + hi + 1).tdiv 2 = (mid : Int) := by rw [Int.tdiv_eq_ediv_of_nonneg (by omega), hmid]; omega
        have x4 : IntKind.i64.wrap (mid : Int) = mid := wrap_in (by omega) (by omega)
        have x5 : IntKind.i64.wrap ((mid : Int) - 1) = ((mid - 1 : Nat) : Int) := by rw [wrap_in (by omega) (by omega)]; omega
        have ct := rtimes_spec true u [(mid : Int)] (digs y) mid y (by simp [dv]) (dv_digs y) (dOk_cons.2 ⟨⟨by omega, by unfold BB; omega⟩, dOk_nil⟩) (digs_ok y) (by simp) (by unfold dl at hy2; omega)
        have ct : ∀ st, Rets P F.podiumref09_times [.list true [.int mid] 1, intLst u (digs y)] st (intLst false (digs (mid * y))) := ct
        have ml : dl (mid * y) ≤ 20001 := Nat.le_trans (dl_mul _ _) (by have := dl_one (n := mid) (by omega); omega)
        have cc := rcmp_spec false false (mid * y) p (by omega) (by omega)
        have e2 : cmpN (mid * y) p ≤ 0 ↔ mid ≤ p / y := by
          rw [Nat.le_div_iff_mul_le (by omega)]
          unfold cmpN; split <;> (try split) <;> omega
        obtain ⟨c2, hc2⟩ : ∃ c, c = cmpN (mid * y) p := ⟨_, rfl⟩
        rw [← hc2] at cc e2
        clear hc2
        by_cases hm : mid ≤ p / y
        · have n2 := e2.2 hm
          have hz2 : Hid (mid ≤ p / y ∧ p / y ≤ hi ∧ hi < 1073741824) := ⟨hm, hz.2.1, hz.2.2⟩
          have hmm : lo < mid ∧ mid ≤ hi := by omega
          clear e2 hm hmid hz
          repeat' (first 
           | (with_reducible refine Rets.xcall (ct _) ?_)
           | (with_reducible refine Rets.xcall (cc _) ?_)
           | (with_reducible refine Lit.imm ?_)
           | (simp -dsimp -implicitDefEqProofs [-xappend_list, *]))
          exact Next.intro (mid, hi) hz2 (by simp only; omega) (by simp) (.refl _)
        · have n2 : ¬ c2 ≤ 0 := fun h => hm (e2.1 h)
          have hz2 : Hid (lo ≤ p / y ∧ p / y ≤ mid - 1 ∧ mid - 1 < 1073741824) := ⟨hz.1, by omega, by omega⟩
          have hmm : lo < mid ∧ mid ≤ hi := by omega
          clear e2 hm hmid hz
          repeat' (first 
           | (with_reducible refine Rets.xcall (ct _) ?_)
           | (with_reducible refine Rets.xcall (cc _) ?_)
           | (with_reducible refine Lit.imm ?_)
           | (simp -dsimp -implicitDefEqProofs [-xappend_list, *]))
          exact Next.intro (lo, mid - 1) hz2 (by simp only; omega) (by simp) (.refl _)
      · have elo : lo = p / y := by omega
        have hqy : lo * y ≤ p := by rw [elo]; exact Nat.div_mul_le_self p y
        have emod : p - lo * y = p % y := by rw [elo]; have := Nat.mod_add_div p y; rw [Nat.mul_comm]; omega
        have ct := rtimes_spec true u [(lo : Int)] (digs y) lo y (by simp [dv]) (dv_digs y) (dOk_cons.2 ⟨⟨by omega, by unfold BB; omega⟩, dOk_nil⟩) (digs_ok y) (by simp) (by unfold dl at hy2; omega)
        have ct : ∀ st, Rets P F.podiumref09_times [.list true [.int lo] 1, intLst u (digs y)] st (intLst false (digs (lo * y))) := ct
        have cl := rless_spec false false p (lo * y) hqy (by omega)
        rw [emod] at cl
        have kS2 : Hid (RDiv x y i (Q.set i (lo : Int)) (p % y)) := ⟨by rw [elo]; exact kS.out.1⟩
        have iN : i < N := by omega
        clear elo hqy emod kS hz
        repeat' (first 
         | (with_reducible refine Rets.xcall (ct _) ?_)
         | (with_reducible refine Rets.xcall (cl _) ?_)
         | (with_reducible refine Lit.imm ?_)
         | (simp -dsimp -implicitDefEqProofs [-xappend_list, *]))
        refine Next.intro (i, Q.set i (lo : Int), p % y) ⟨by simp only; omega, kS2.out⟩ (by simp only; omega) (by simp) ?_
        rw [intRow_set]
        exact .refl _
end Go.Proofs.Ytliglilanpfjhaa
/- The reference: whole numbers. -/
namespace Go.Proofs.Ytliglilanpfjhaa
open Go.Pv
set_option maxRecDepth 100000
set_option maxHeartbeats 8000000
theorem rCheck_specW (s t : Bool) (L : List Int) (st : Store) : Rets P F.podiumref09_Check [.agg [.bool s, intLst t L]] st (.int (errB (bigOk s L) 90)) := by
  refine H.podiumref09_Check.view hmix rfl rfl ?_
  by_cases h1 : 2048 < L.length
  · have h2 := bigOk_long (s := s) h1
    have h3 : (2048 : Int) < L.length := by omega
    repeat' (first 
     | (with_reducible refine Fresh.intro fun b hb => ?_) <;> (try simp -dsimp -implicitDefEqProofs [*] at hb)
     | (simp -dsimp -implicitDefEqProofs [errB, *]))
    exact RetView.drop (st' := st) (by repeat' (first | exact StLe.refl _ | (refine StLe_cons (by simp [*]; done) ?_) | (refine StLe_fresh (by simp [*]; done) ?_))) ⟨rfl, rfl⟩
  · have h3 : ¬ (2048 : Int) < L.length := by omega
    by_cases h4 : L = []
    · subst h4
      have h5 := bigOk_nil s
      cases s with
      | true =>
        repeat' (first 
         | (with_reducible refine Fresh.intro fun b hb => ?_) <;> (try simp -dsimp -implicitDefEqProofs [*] at hb)
         | (simp -dsimp -implicitDefEqProofs [errB, *]))
        exact RetView.drop (st' := st) (by repeat' (first | exact StLe.refl _ | (refine StLe_cons (by simp [*]; done) ?_) | (refine StLe_fresh (by simp [*]; done) ?_))) ⟨rfl, rfl⟩
      | false =>
        repeat' (first 
         | (with_reducible refine Fresh.intro fun b hb => ?_) <;> (try simp -dsimp -implicitDefEqProofs [*] at hb)
         | (simp -dsimp -implicitDefEqProofs [*]))
        refine xloop_for (fun _ : Unit => [(3, .int 0), (4, .int 0)]) (fun _ => st) (fun _ => True) (fun _ => 0) () trivial (by simp) (by repeat' (first | exact StLe.refl _ | (refine StLe_cons (by simp [*]; done) ?_) | (refine StLe_fresh (by simp [*]; done) ?_))) ?_
        intro _ _
        repeat' (simp -dsimp -implicitDefEqProofs [errB, *])
        exact .same ⟨rfl, rfl⟩
    · have h6 : 0 < L.length := List.length_pos_iff.2 h4
      have h7 := bigOk_cons (s := s) (show L.length ≤ 2048 by omega) h6
      have h8 : ¬ (L.length : Int) = 0 := by omega
      have h6' : (0 : Int) < L.length := by omega
      obtain ⟨j, hj⟩ : ∃ j, j = L.length - 1 := ⟨_, rfl⟩
      have w1 : IntKind.i64.wrap ((L.length : Int) - 1) = (j : Int) := by rw [hj, wrap_in (by omega) (by omega)]; omega
      have hlt : j < L.length := by omega
      have ej : L[L.length - 1] = L[j] := by subst hj; rfl
      rw [ej] at h7
      clear hj ej
      by_cases h9 : L[j] = 0
      · have h7 : bigOk s L = false := by rw [h7, h9]; simp
        cases s with
        | true =>
          repeat' (first 
           | (with_reducible refine Fresh.intro fun b hb => ?_) <;> (try simp -dsimp -implicitDefEqProofs [*] at hb)
           | (simp -dsimp -implicitDefEqProofs [errB, *]))
          exact RetView.drop (st' := st) (by repeat' (first | exact StLe.refl _ | (refine StLe_cons (by simp [*]; done) ?_) | (refine StLe_fresh (by simp [*]; done) ?_))) ⟨rfl, rfl⟩
        | false =>
          repeat' (first 
           | (with_reducible refine Fresh.intro fun b hb => ?_) <;> (try simp -dsimp -implicitDefEqProofs [*] at hb)
           | (simp -dsimp -implicitDefEqProofs [errB, *]))
          exact RetView.drop (st' := st) (by repeat' (first | exact StLe.refl _ | (refine StLe_cons (by simp [*]; done) ?_) | (refine StLe_fresh (by simp [*]; done) ?_))) ⟨rfl, rfl⟩
      · have k7 : Hid (bigOk s L = L.all digOk) := ⟨by rw [h7]; simp [h9]⟩
        clear h7
        have kb : ∀ i (hi : i < L.length), digOk L[i] = false → Hid (bigOk s L = false) := fun i hi h => ⟨by
          rw [k7.out]
          cases ha : L.all digOk with
          | false => rfl
          | true =>
            have := List.all_eq_true.1 ha L[i] (List.getElem_mem hi)
            rw [h] at this; cases this⟩
        repeat' (first 
         | (with_reducible refine Fresh.intro fun b hb => ?_) <;> (try simp -dsimp -implicitDefEqProofs [*] at hb)
         | (simp -dsimp -implicitDefEqProofs [*]))
        refine xloop_for (fun i : Nat => [(1, .ptr b 0), (3, .int L.length), (4, .int i)]) (fun _ => (b, .arr T.apiBig [.bool s, intLst t L]) :: st) (fun i => i ≤ L.length ∧ Hid (∀ j (h : j < L.length), j < i → digOk L[j] = true)) (fun i => L.length - i) 0 ⟨Nat.zero_le _, ⟨fun j _ h => absurd h (by omega)⟩⟩ (by simp) (.refl _) ?_
        rintro i ⟨hi, hA⟩
        by_cases hil : i < L.length
        · have x5 := wrap_succ (n := i) (by omega)
          have kb := kb i hil
          by_cases n1 : L[i] < 0
          · have kF := kb (by simp [digOk]; omega)
            clear kb
            repeat' (simp -dsimp -implicitDefEqProofs [*])
            exact RetView.drop (st' := st) (by repeat' (first | exact StLe.refl _ | (refine StLe_cons (by simp [*]; done) ?_) | (refine StLe_fresh (by simp [*]; done) ?_))) ⟨by rw [kF.out]; rfl, rfl⟩
          · by_cases n2 : 1073741824 ≤ L[i]
            · have kF := kb (by simp [digOk]; omega)
              clear kb
              repeat' (simp -dsimp -implicitDefEqProofs [*])
              exact RetView.drop (st' := st) (by repeat' (first | exact StLe.refl _ | (refine StLe_cons (by simp [*]; done) ?_) | (refine StLe_fresh (by simp [*]; done) ?_))) ⟨by rw [kF.out]; rfl, rfl⟩
            · clear kb
              have hA2 : Hid (∀ j (h : j < L.length), j < i + 1 → digOk L[j] = true) := ⟨fun j hj hji => by
                by_cases e : j = i
                · subst e; simp [digOk]; omega
                · exact hA.out j hj (by omega)⟩
              clear hA
              repeat' (simp -dsimp -implicitDefEqProofs [*])
              exact Next.intro (i + 1) ⟨by omega, hA2⟩ (by omega) (by simp) (.refl _)
        · have kT : Hid (bigOk s L = true) := ⟨by
            rw [k7.out, List.all_eq_true]
            intro x hx
            obtain ⟨j, hj, rfl⟩ := List.getElem_of_mem hx
            exact hA.out j hj (by omega)⟩
          clear kb
          repeat' (simp -dsimp -implicitDefEqProofs [*])
          exact RetView.drop (st' := st) (by repeat' (first | exact StLe.refl _ | (refine StLe_cons (by simp [*]; done) ?_) | (refine StLe_fresh (by simp [*]; done) ?_))) ⟨by rw [kT.out]; rfl, rfl⟩
theorem rCheck_spec (s t : Bool) (L : List Int) (_hL : L.length ≤ 100000) (st : Store) : Rets P F.podiumref09_Check [.agg [.bool s, intLst t L]] st (.int (errB (bigOk s L) 90)) := rCheck_specW s t L st
theorem rTwo_spec (s1 t1 s2 t2 : Bool) (L1 L2 : List Int) (h1 : bigOk s1 L1 = true) (h2 : bigOk s2 L2 = true) (hl1 : L1.length ≤ 100000) (hl2 : L2.length ≤ 100000) (st : Store) : Rets P F.podiumref09_two [.agg [.bool s1, intLst t1 L1], .agg [.bool s2, intLst t2 L2]] st (.int 0) := by
  have c1 := rCheck_spec s1 t1 L1 hl1
  have c2 := rCheck_spec s2 t2 L2 hl2
  rw [h1] at c1
  rw [h2] at c2
  have c1 : ∀ st, Rets P F.podiumref09_Check [.agg [.bool s1, intLst t1 L1]] st (.int 0) := c1
  have c2 : ∀ st, Rets P F.podiumref09_Check [.agg [.bool s2, intLst t2 L2]] st (.int 0) := c2
  clear h1 h2
  refine H.podiumref09_two.pure hmix rfl rfl ?_
  repeat' (first 
   | (with_reducible refine Fresh.intro fun b hb => ?_) <;> (try simp -dsimp -implicitDefEqProofs [*] at hb)
   | (with_reducible refine Rets.xcall (c1 _) ?_)
   | (with_reducible refine Rets.xcall (c2 _) ?_)
   | (simp -dsimp -implicitDefEqProofs [*]))
theorem rOf_spec (s t : Bool) (n : Nat) (hn : dl n ≤ 2048) (st : Store) : Rets P F.podiumref09_of [.bool s, intLst t (digs n)] st (.tuple [.agg [.bool (s && decide (n ≠ 0)), intLst false (digs n)], .int 0]) := by
  refine H.podiumref09_of.view hmix rfl rfl ?_
  have ht := rtrim_spec t (digs n) (by unfold dl at hn; omega)
  rw [trimD_digs] at ht
  have hl : (digs n).length ≤ 2048 := hn
  have n1 : ¬ (2048 : Int) < (digs n).length := by omega
  cases s with
  | false =>
    repeat' (first 
     | (with_reducible refine Fresh.intro fun b hb => ?_) <;> (try simp -dsimp -implicitDefEqProofs [*] at hb)
     | (with_reducible refine Rets.xcall (ht _) ?_)
     | (simp -dsimp -implicitDefEqProofs [*]))
    exact .drop (by simp [*]) ⟨rfl, rfl⟩
  | true =>
    by_cases h0 : n = 0
    · subst h0
      rw [digs_zero] at ht n1 ⊢
      repeat' (first 
       | (with_reducible refine Fresh.intro fun b hb => ?_) <;> (try simp -dsimp -implicitDefEqProofs [*] at hb)
       | (with_reducible refine Rets.xcall (ht _) ?_)
       | (simp -dsimp -implicitDefEqProofs [*]))
      exact .drop (by simp [*]) ⟨rfl, rfl⟩
    · have := dl_pos h0
      have h1 : 0 < (digs n).length := this
      repeat' (first 
       | (with_reducible refine Fresh.intro fun b hb => ?_) <;> (try simp -dsimp -implicitDefEqProofs [*] at hb)
       | (with_reducible refine Rets.xcall (ht _) ?_)
       | (simp -dsimp -implicitDefEqProofs [*]))
      exact .drop (by simp [*]) ⟨rfl, rfl⟩
theorem rGcd_spec (t u : Bool) (v w : Int) (ha : dl v.natAbs ≤ 2048) (hb : dl w.natAbs ≤ 2048) (st : Store) : Rets P F.podiumref09_Gcd [.agg (zC t v), .agg (zC u w)] st (.tuple [.agg (zC false (Nat.gcd v.natAbs w.natAbs : Nat)), .int 0]) := by
  have hc := rTwo_spec _ t _ u _ _ (zOk v ha) (zOk w hb) (by unfold dl at ha; omega) (by unfold dl at hb; omega)
  obtain ⟨x, hx⟩ : ∃ x, x = v.natAbs := ⟨_, rfl⟩
  obtain ⟨y, hy⟩ : ∃ y, y = w.natAbs := ⟨_, rfl⟩
  rw [zC_nat]
  unfold zC
  rw [← hx] at hc ha
  rw [← hy] at hc hb
  rw [← hx, ← hy]
  clear hx hy
  refine H.podiumref09_Gcd.view hmix rfl rfl ?_
  repeat' (first 
   | (with_reducible refine Fresh.intro fun b hb => ?_) <;> (try simp -dsimp -implicitDefEqProofs [*] at hb)
   | (with_reducible refine Rets.xcall (hc _) ?_)
   | (simp -dsimp -implicitDefEqProofs [*]))
  revert b
  revert b
  revert b
  intro p2 h2 p3 h3 p4 h4
  refine xloop_for (fun y : Bool × Bool × Nat × Nat => [(4, .ptr p4 0), (7, intLst y.1 (digs y.2.2.1)), (8, intLst y.2.1 (digs y.2.2.2))]) (fun _ => (p4, .arr T.apiBig [.bool false, .nil]) :: (p3, .arr T.apiBig [.bool (decide (w < 0)), intLst u (digs y)]) :: (p2, .arr T.apiBig [.bool (decide (v < 0)), intLst t (digs x)]) :: st)
    (fun z => dl z.2.2.1 ≤ 2048 ∧ dl z.2.2.2 ≤ 2048 ∧ Hid (Nat.gcd z.2.2.1 z.2.2.2 = Nat.gcd x y)) (fun z => z.2.2.2) (t, u, x, y) ⟨ha, hb, ⟨rfl⟩⟩ (by simp) (.refl _) ?_
  rintro ⟨t1, u1, m, n⟩ ⟨hm, hn, hg⟩
  simp only at hm hn hg
  clear ha hb hc
  by_cases hn0 : n = 0
  · subst hn0
    have hg2 : m = Nat.gcd x y := by have := hg.out; rwa [Nat.gcd_zero_right] at this
    have hbig := rOf_spec false t1 m hm
    rw [← hg2, digs_zero]
    clear hg hg2 hn
    repeat' (first 
     | (with_reducible refine Rets.xcall (hbig _) ?_)
     | (simp -dsimp -implicitDefEqProofs [*]))
    exact RetView.drop (st' := st) (by repeat' (first | exact StLe.refl _ | (refine StLe_cons (by simp [*]; done) ?_) | (refine StLe_fresh (by simp [*]; done) ?_))) ⟨rfl, rfl⟩
  · have hd := rdivide_spec t1 u1 m n hn0 (by omega) (by omega)
    have l0 : 0 < (digs n).length := dl_pos hn0
    have hlt := Nat.mod_lt m (show 0 < n by omega)
    have hmn : dl (m % n) ≤ 2048 := Nat.le_trans (dl_mono (Nat.le_of_lt hlt)) hn
    have hg2 : Hid (Nat.gcd n (m % n) = Nat.gcd x y) := ⟨by rw [gcd_step]; exact hg.out⟩
    clear hg
    repeat' (first 
     | (with_reducible refine Rets.xcall (hd _) ?_)
     | (simp -dsimp -implicitDefEqProofs [*]))
    exact Next.intro (u1, false, n, m % n) ⟨hn, hmn, hg2⟩ hlt (by simp) (.refl _)
end Go.Proofs.Ytliglilanpfjhaa
