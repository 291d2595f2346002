/- The reference: differences, division. -/
import Derived.Test.YtiaebckdjklnoaaS56U
import Derived.Test.YtiaebckdjklnoaaLRg
namespace Go.Proofs.Ytiaebckdjklnoaa
open Go.Pv
set_option maxRecDepth 100000
set_option maxHeartbeats 4000000
theorem rless_spec (t u : Bool) (x y : Nat) (hyx : y ≤ x) (hx : dl x ≤ 20000) (st : Store) : Rets P F.podiumref09_less [intLst t (digs x), intLst u (digs y)] st (intLst false (digs (x - y))) := by
  have hS := subD hyx
  have H : ∃ f : Nat → Int, ∀ i, f i = dAt (digs x) i - dAt (digs y) i := ⟨fun i => dAt (digs x) i - dAt (digs y) i, fun _ => rfl⟩
  obtain ⟨f, hf⟩ := H
  have ef : (fun i => dAt (digs x) i - dAt (digs y) i) = f := funext fun i => (hf i).symm
  rw [ef] at hS
  have kf : Hid (∀ i, f i = dAt (digs x) i - dAt (digs y) i) := ⟨hf⟩
  have ow := carD_owe (digs_ok x) (digs_ok y) hf
  have ow : Hid (∀ i, (carD f i).2 = 0 ∨ (carD f i).2 = -1) := ⟨ow⟩
  rw [← hS]
  have hxl : (digs x).length ≤ 20000 := hx
  have exl : dl x = (digs x).length := rfl
  rw [exl]
  clear ef hf hS exl
  obtain ⟨A, hA⟩ : ∃ A, A = digs x := ⟨_, rfl⟩
  obtain ⟨B, hB⟩ : ∃ A, A = digs y := ⟨_, rfl⟩
  have okA : Hid (dOk A ∧ dOk B) := ⟨by rw [hA, hB]; exact ⟨digs_ok _, digs_ok _⟩⟩
  rw [← hA] at kf hxl ⊢
  rw [← hB] at kf ⊢
  clear hA hB
  refine H.podiumref09_less.view hmix rfl rfl ?_
  repeat' (first 
   | (with_reducible refine Lit.imm ?_)
   | (simp -dsimp -implicitDefEqProofs [-xappend_list, *]))
  refine xloop_for (fun z : Nat × Option (Acc Int) => [(0, intLst t A), (1, intLst u B), (5, accT z.2), (6, .int (-(carD f z.1).2)), (7, .int z.1)]) (fun z => accS T.int st z.2) (fun z => z.1 ≤ A.length ∧ accOk intRow 1 st z.2 ∧ Hid (accL z.2 = (carD f z.1).1)) (fun z => A.length - z.1) (0, none) ⟨Nat.zero_le _, trivial, ⟨rfl⟩⟩ (by simp [carD]) (.refl _) ?_
  rintro ⟨i, o⟩ ⟨hi, ho, hl⟩
  simp only at hi ho hl
  by_cases hin : i < A.length
  · have kn : Hid ((accL o).length ≤ 20000) := ⟨by rw [hl.out, carD_len]; omega⟩
    have y1 := dOk_get okA.out.1 hin
    have y2 := dAt_ok okA.out.2 i
    have e1 := kf.out i
    rw [dAt_lt hin] at e1
    obtain ⟨aj, haj⟩ : ∃ aj, A[i] = aj := ⟨_, rfl⟩
    rw [haj] at y1 e1
    obtain ⟨bj, hbj⟩ : ∃ b, dAt B i = b := ⟨_, rfl⟩
    have cd := rdigit_spec u B i
    rw [hbj] at cd e1 y2
    have ho2 := ow.out i
    unfold BB at y1 y2
    obtain ⟨w, hw⟩ : ∃ w, w = (carD f i).2 := ⟨_, rfl⟩
    obtain ⟨s, hs⟩ : ∃ s, s = f i + (carD f i).2 := ⟨_, rfl⟩
    rw [← hw] at ho2
    have cl := carD_less hs (by rw [hs, e1, ← hw]; omega) (by rw [hs, e1, ← hw]; omega)
    have x1 : IntKind.i64.wrap (aj - bj) = aj - bj := wrap_in (by omega) (by omega)
    have x2 : IntKind.i64.wrap (aj - bj - -w) = s := by rw [hs, e1, ← hw, wrap_in (by omega) (by omega)]; omega
    have x2' : IntKind.i64.wrap (aj - bj + w) = s := by rw [hs, e1, ← hw, wrap_in (by omega) (by omega)]
    have x3 := wrap_succ (n := i) (by omega)
    rw [← hw]
    have sB : -1073741824 ≤ s ∧ s < 1073741824 := by rw [hs, e1, ← hw]; omega
    by_cases hneg : s < 0
    · have x4 : IntKind.i64.wrap (s + 1073741824) = s + 1073741824 := wrap_in (by omega) (by omega)
      have c3 : Hid _ := ⟨cl.1 hneg⟩
      clear cl y1 y2 e1 hw hs hbj ho2
      repeat' (first 
       | (with_reducible refine Rets.xcall (cd _) ?_)
       | (with_reducible refine Lit.imm ?_)
       | (with_reducible refine DrawLate.intro [] ?_)
       | (simp -dsimp -implicitDefEqProofs [-xappend_list, *]))
      refine xappend_accT intRow_len intRow_append o ho [s + 1073741824] (by simp [intRow]) rfl (by omega) (by have := kn.out; omega) fun a ha hab hal => ?_
      have hl2 : Hid (a.l = (carD f (i + 1)).1) := ⟨by rw [hal, c3.out, hl.out]⟩
      have e2 : (carD f (i + 1)).2 = -1 := by rw [c3.out]
      clear hal ho
      repeat' (simp -dsimp -implicitDefEqProofs [-xappend_list, *])
      exact Next.intro (i + 1, some a) ⟨by simp only; omega, ⟨ha, hab⟩, hl2⟩ (by simp only; omega) (by simp [e2]) (by repeat' (first | exact StLe.refl _ | (refine StLe_cons (by simp [*]; done) ?_) | (refine StLe_fresh (by simp [*]; done) ?_)))
    · have c3 : Hid _ := ⟨cl.2 hneg⟩
      clear cl y1 y2 e1 hw hs hbj ho2
      repeat' (first 
       | (with_reducible refine Rets.xcall (cd _) ?_)
       | (with_reducible refine Lit.imm ?_)
       | (with_reducible refine DrawLate.intro [] ?_)
       | (simp -dsimp -implicitDefEqProofs [-xappend_list, *]))
      refine xappend_accT intRow_len intRow_append o ho [s] (by simp [intRow]) rfl (by omega) (by have := kn.out; omega) fun a ha hab hal => ?_
      have hl2 : Hid (a.l = (carD f (i + 1)).1) := ⟨by rw [hal, c3.out, hl.out]⟩
      have e2 : (carD f (i + 1)).2 = 0 := by rw [c3.out]
      clear hal ho
      repeat' (simp -dsimp -implicitDefEqProofs [-xappend_list, *])
      exact Next.intro (i + 1, some a) ⟨by simp only; omega, ⟨ha, hab⟩, hl2⟩ (by simp only; omega) (by simp [e2]) (by repeat' (first | exact StLe.refl _ | (refine StLe_cons (by simp [*]; done) ?_) | (refine StLe_fresh (by simp [*]; done) ?_)))
  · have e : i = A.length := by omega
    subst e
    have ht := rtrim_spec false (accL o) (by rw [hl.out, carD_len]; omega) st
    repeat' (simp -dsimp -implicitDefEqProofs [-xappend_list, *])
    refine xcall_accT (row := intRow) rfl ho ht ?_
    rw [hl.out]
    repeat' (simp -dsimp -implicitDefEqProofs [-xappend_list, *])
    exact .same ⟨rfl, rfl⟩
/-- The greatest digit: so far. -/
structure DivR (x y i : Nat) (Q : List Int) (r : Nat) : Prop where
  len : Q.length = dl x
  ok : dOk Q
  lt : r < y
  val : dv ((digs x).drop i) = dv (Q.drop i) * y + r
end Go.Proofs.Ytiaebckdjklnoaa
/- The reference: division. -/
namespace Go.Proofs.Ytiaebckdjklnoaa
open Go.Pv
set_option maxRecDepth 100000
set_option maxHeartbeats 8000000
theorem rdivide_spec (t u : Bool) (x y : Nat) (hy : y ≠ 0) (hx : dl x ≤ 19000) (hy2 : dl y ≤ 19000) (st : Store) : Rets P F.podiumref09_divide [intLst t (digs x), intLst u (digs y)] st (.tuple [intLst false (digs (x / y)), intLst false (digs (x % y))]) := by
  obtain ⟨r0, hr0, R0⟩ := RDiv.start (x := x) hy
  have hxl : (digs x).length = dl x := rfl
  have hyl : (digs y).length = dl y := rfl
  have lp := dl_pos hy
  obtain ⟨s0, hs0⟩ : ∃ s, s = dl x + 1 - dl y := ⟨_, rfl⟩
  rw [← hs0] at hr0 R0
  have hs1 : s0 ≤ dl x := by omega
  obtain ⟨z, hz⟩ : ∃ z, z = (dl x : Int) - dl y + 1 := ⟨_, rfl⟩
  have w0 : IntKind.i64.wrap ((dl x : Int) - dl y) = (dl x : Int) - dl y := wrap_in (by omega) (by omega)
  have w1 : IntKind.i64.wrap ((dl x : Int) - dl y + 1) = z := by rw [← hz]; exact wrap_in (by omega) (by omega)
  have w2 : (if 0 < z then z else 0) = (s0 : Int) := by split <;> omega
  have w3 : IntKind.i64.wrap ((s0 : Int) - 1) = (s0 : Int) - 1 := wrap_in (by omega) (by omega)
  have w4 : ((dl x : Int) - s0).toNat = dl x - s0 := by omega
  have et : trimD ((digs x).drop s0) = digs r0 := trimD_eq (dOk_drop (digs_ok x) _) hr0
  obtain ⟨N, hN⟩ : ∃ N, N = dl x := ⟨_, rfl⟩
  have kR : Hid (RDiv x y s0 (List.replicate N 0) r0) := ⟨by rw [hN]; exact R0⟩
  clear R0 hs0 hz hr0
  refine H.podiumref09_divide.view hmix rfl rfl ?_
  repeat' (first 
   | (with_reducible refine Fresh.intro fun b hb => ?_) <;> (try simp -dsimp -implicitDefEqProofs [*] at hb)
   | (with_reducible refine Lit.imm ?_)
   | ((with_reducible refine and_keep ?_ fun hk => ?_); omega)
   | (simp -dsimp -implicitDefEqProofs [-xappend_list, *]))
  refine xappend_accX (l := []) (xs := (digs x).drop s0) (by rw [intRow_drop]) (by rw [List.length_drop]) (by rw [List.length_drop]; simp; omega) fun o ho hl0 => ?_
  have hl : Hid (accXL [] o = (digs x).drop s0) := ⟨by rw [hl0]; simp⟩
  have ht0 := rtrim_spec false (accXL [] o) (by rw [hl.out, List.length_drop]; omega) ((b, .arr T.int (List.replicate (dl x) (.int 0))) :: st)
  rw [hl.out, et] at ht0
  have ht : Hid _ := ⟨ht0⟩
  clear ht0 hl0
  repeat' (simp -dsimp -implicitDefEqProofs [-xappend_list, *])
  refine xcall_accX ho (by rw [hl.out]; exact ht.out) ?_
  clear ht hl et w0 w1 w2 w4
  repeat' (simp -dsimp -implicitDefEqProofs [-xappend_list, *])
  rw [← hN] at hs1 ⊢
  have kN : Hid (N = dl x) := ⟨hN⟩
  clear hN
  refine xloop_for (fun z : Nat × List Int × Nat => [(0, intLst t (digs x)), (1, intLst u (digs y)), (6, .own b 0 N N), (8, intLst false (digs z.2.2)), (9, .int ((z.1 : Int) - 1))]) (fun z => (b, .arr T.int (intRow z.2.1)) :: st) (fun z => Hid (z.1 ≤ N ∧ RDiv x y z.1 z.2.1 z.2.2)) (fun z => z.1) (s0, List.replicate N 0, r0) ⟨hs1, kR.out⟩ (by simp) (by simp [intRow_rep]) ?_
  rintro ⟨n, Q, r⟩ ⟨hn, hI⟩
  simp only at hn hI ⊢
  clear kR w3 hs1
  cases n with
  | zero =>
    obtain ⟨f1, f2⟩ := hI.fin
    have lQ : Q.length = N := by rw [hI.len, kN.out]
    have ht := rtrim_own b N Q [] (by have := kN.out; omega) (by omega) ((b, .arr T.int (intRow Q)) :: st) (by simp)
    rw [lQ] at ht
    rw [← f1, ← f2]
    clear f1 f2 hI
    repeat' (first 
     | (with_reducible refine Rets.xcall (ht) ?_)
     | (simp -dsimp -implicitDefEqProofs [-xappend_list, *]))
    exact .trimL hb (by omega) (by have := kN.out; omega) (.same ⟨rfl, rfl⟩)
  | succ i =>
    have hix : i < dl x := by have := kN.out; omega
    obtain ⟨d, hd, hd2, hdt⟩ := RDiv.next (x := x) (r := r) hix
    have hskip := hI.skip hix hd hd2
    obtain ⟨hq, hstep⟩ := hI.step hix hd hd2
    have lQ : Q.length = N := by rw [hI.len, kN.out]
    have hr := hI.lt
    have lr : dl r ≤ 19000 := Nat.le_trans (dl_mono (Nat.le_of_lt hr)) hy2
    obtain ⟨p, hp⟩ : ∃ p, p = d + 1073741824 * r := ⟨_, rfl⟩
    rw [hd, ← hp] at hdt
    rw [← hp] at hskip hstep hq
    have hpl : dl p ≤ dl r + 1 := by
      have h2 := trimD_le ((d : Int) :: digs r)
      rw [hdt, List.length_cons] at h2
      exact h2
    have hg : (digs x)[i]'hix = d := hd
    have kS : Hid (RDiv x y i (Q.set i ((p / y : Nat) : Int)) (p % y) ∧ p / y < 1073741824 ∧ (p < y → RDiv x y i Q p)) := ⟨hstep, hq, hskip⟩
    clear hstep hq hskip hI hd hp
    repeat' (first 
     | (with_reducible refine Lit.imm ?_)
     | (simp -dsimp -implicitDefEqProofs [-xappend_list, *]))
    refine xappend_accX (l := [(d : Int)]) (xs := digs r) rfl rfl (by unfold dl at lr; simp; omega) fun o ho hl0 => ?_
    have hl : Hid (accXL [(d : Int)] o = (d : Int) :: digs r) := ⟨by rw [hl0]; rfl⟩
    have ht0 := rtrim_spec false (accXL [(d : Int)] o) (by rw [hl.out, List.length_cons]; unfold dl at lr; omega) ((b, .arr T.int (intRow Q)) :: st)
    rw [hl.out, hdt] at ht0
    have ht : Hid _ := ⟨ht0⟩
    clear ht0 hl0 hdt
    have hcmp := rcmp_spec false u p y (by omega) (by omega)
    repeat' (simp -dsimp -implicitDefEqProofs [-xappend_list, *])
    refine xcall_accX ho (by rw [hl.out]; exact ht.out) ?_
    clear ht hl
    have e1 : cmpN p y < 0 ↔ p < y := by unfold cmpN; split <;> (try split) <;> omega
    obtain ⟨c, hc⟩ : ∃ c, c = cmpN p y := ⟨_, rfl⟩
    rw [← hc] at hcmp e1
    clear hc
    have x6 : IntKind.i64.wrap ((i : Int) - 1) = (i : Int) - 1 := wrap_in (by omega) (by have := kN.out; omega)
    by_cases hlt : p < y
    · have n1 := e1.2 hlt
      clear e1
      repeat' (first 
       | (with_reducible refine Rets.xcall (hcmp _) ?_)
       | (simp -dsimp -implicitDefEqProofs [-xappend_list, *]))
      exact Next.intro (i, Q, p) ⟨by simp only; omega, kS.out.2.2 hlt⟩ (by simp only; omega) (by simp) (by repeat' (first | exact StLe.refl _ | (refine StLe_cons (by simp [*]; done) ?_) | (refine StLe_fresh (by simp [*]; done) ?_)))
    · have n1 : ¬ c < 0 := fun h => hlt (e1.1 h)
      clear e1
      have hlt : Hid (¬ p < y) := ⟨hlt⟩
      repeat' (first 
       | (with_reducible refine Rets.xcall (hcmp _) ?_)
       | (simp -dsimp -implicitDefEqProofs [-xappend_list, *]))
      clear hcmp n1
      refine xloop_for (fun z : Nat × Nat => [(0, intLst t (digs x)), (1, intLst u (digs y)), (6, .own b 0 N N), (8, intLst false (digs p)), (9, .int i), (10, .int z.1), (11, .int z.2)]) (fun _ => (b, .arr T.int (intRow Q)) :: st) (fun z => Hid (z.1 ≤ p / y ∧ p / y ≤ z.2 ∧ z.2 < 1073741824)) (fun z => z.2 - z.1) (0, 1073741823) ⟨Nat.zero_le _, by have := kS.out.2.1; simp only; omega, by decide⟩ (by simp) (.refl _) ?_
      rintro ⟨lo, hi⟩ ⟨hz⟩
      simp only at hz ⊢
      by_cases hlh : lo < hi
      · obtain ⟨mid, hmid⟩ : ∃ m, m = (lo + hi + 1) / 2 := ⟨_, rfl⟩
        have x1 : IntKind.i64.wrap ((lo : Int) + hi) = (lo : Int) + hi := wrap_in (by omega) (by omega)
        have x2 : IntKind.i64.wrap ((lo : Int) + hi + 1) = (lo : Int) + hi + 1 := wrap_in (by omega) (by omega)
        have x3 : ((lo : Int) + hi + 1).tdiv 2 = (mid : Int) := by rw [Int.tdiv_eq_ediv_of_nonneg (by omega), hmid]; omega
        have x4 : IntKind.i64.wrap (mid : Int) = mid := wrap_in (by omega) (by omega)
        have x5 : IntKind.i64.wrap ((mid : Int) - 1) = ((mid - 1 : Nat) : Int) := by rw [wrap_in (by omega) (by omega)]; omega
        have ct := rtimes_spec true u [(mid : Int)] (digs y) mid y (by simp [dv]) (dv_digs y) (dOk_cons.2 ⟨⟨by omega, by unfold BB; omega⟩, dOk_nil⟩) (digs_ok y) (by simp) (by unfold dl at hy2; omega)
        have ct : ∀ st, Rets P F.podiumref09_times [.list true [.int mid] 1, intLst u (digs y)] st (intLst false (digs (mid * y))) := ct
        have ml : dl (mid * y) ≤ 20001 := Nat.le_trans (dl_mul _ _) (by have := dl_one (n := mid) (by omega); omega)
        have cc := rcmp_spec false false (mid * y) p (by omega) (by omega)
        have e2 : cmpN (mid * y) p ≤ 0 ↔ mid ≤ p / y := by
          rw [Nat.le_div_iff_mul_le (by omega)]
          unfold cmpN; split <;> (try split) <;> omega
        obtain ⟨c2, hc2⟩ : ∃ c, c = cmpN (mid * y) p := ⟨_, rfl⟩
        rw [← hc2] at cc e2
        clear hc2
        by_cases hm : mid ≤ p / y
        · have n2 := e2.2 hm
          have hz2 : Hid (mid ≤ p / y ∧ p / y ≤ hi ∧ hi < 1073741824) := ⟨hm, hz.2.1, hz.2.2⟩
          have hmm : lo < mid ∧ mid ≤ hi := by omega
          clear e2 hm hmid hz
          repeat' (first 
           | (with_reducible refine Rets.xcall (ct _) ?_)
           | (with_reducible refine Rets.xcall (cc _) ?_)
           | (with_reducible refine Lit.imm ?_)
           | (simp -dsimp -implicitDefEqProofs [-xappend_list, *]))
          exact Next.intro (mid, hi) hz2 (by simp only; omega) (by simp) (.refl _)
        · have n2 : ¬ c2 ≤ 0 := fun h => hm (e2.1 h)
          have hz2 : Hid (lo ≤ p / y ∧ p / y ≤ mid - 1 ∧ mid - 1 < 1073741824) := ⟨hz.1, by omega, by omega⟩
          have hmm : lo < mid ∧ mid ≤ hi := by omega
          clear e2 hm hmid hz
          repeat' (first 
           | (with_reducible refine Rets.xcall (ct _) ?_)
           | (with_reducible refine Rets.xcall (cc _) ?_)
           | (with_reducible refine Lit.imm ?_)
           | (simp -dsimp -implicitDefEqProofs [-xappend_list, *]))
          exact Next.intro (lo, mid - 1) hz2 (by simp only; omega) (by simp) (.refl _)
      · have elo : lo = p / y := by omega
        have hqy : lo * y ≤ p := by rw [elo]; exact Nat.div_mul_le_self p y
        have emod : p - lo * y = p % y := by rw [elo]; have := Nat.mod_add_div p y; rw [Nat.mul_comm]; omega
        have ct := rtimes_spec true u [(lo : Int)] (digs y) lo y (by simp [dv]) (dv_digs y) (dOk_cons.2 ⟨⟨by omega, by unfold BB; omega⟩, dOk_nil⟩) (digs_ok y) (by simp) (by unfold dl at hy2; omega)
        have ct : ∀ st, Rets P F.podiumref09_times [.list true [.int lo] 1, intLst u (digs y)] st (intLst false (digs (lo * y))) := ct
        have cl := rless_spec false false p (lo * y) hqy (by omega)
        rw [emod] at cl
        have kS2 : Hid (RDiv x y i (Q.set i (lo : Int)) (p % y)) := ⟨by rw [elo]; exact kS.out.1⟩
        have iN : i < N := by omega
        clear elo hqy emod kS hz
        repeat' (first 
         | (with_reducible refine Rets.xcall (ct _) ?_)
         | (with_reducible refine Rets.xcall (cl _) ?_)
         | (with_reducible refine Lit.imm ?_)
         | (simp -dsimp -implicitDefEqProofs [-xappend_list, *]))
        refine Next.intro (i, Q.set i (lo : Int), p % y) ⟨by simp only; omega, kS2.out⟩ (by simp only; omega) (by simp) ?_
        rw [intRow_set]
        exact .refl _
end Go.Proofs.Ytiaebckdjklnoaa
