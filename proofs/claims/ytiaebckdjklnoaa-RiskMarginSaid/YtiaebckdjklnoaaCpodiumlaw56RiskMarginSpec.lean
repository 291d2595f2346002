/- The code of one function. -/
import Derived.Test.YtiaebckdjklnoaaCode
import Derived.Test.YtiaebckdjklnoaaCpodiumlaw56RiskMargin
set_option maxRecDepth 100000
namespace Go.Proofs.Ytiaebckdjklnoaa
open Go.Pv
/-- podium/podiumlaw56.RiskMarginSpec -/
noncomputable def C.podiumlaw56_RiskMarginSpec : MFunc := ⟨34, 2, [.tmp 4],
  (.seq (.region [
    ⟨(some 4), none, .val (.mv (.const (.bool false)))⟩] [])
  (.seq (.seq (.region [
    ⟨(some 9), none, .call (.const (.func (.func F.podiumlaw56_sane) [] [])) []⟩,
    ⟨(some 10), none, .val (.un .not (.tmp 9))⟩] [9])
  (.cond (.tmp 10)
  (.seq (.region [
    ⟨(some 4), none, .val (.mv (.const (.bool false)))⟩] [])
  .ret)
  .skip))
  (.seq (.seq (.region [
    ⟨(some 11), none, .val (.mv (.tmp 1))⟩,
    ⟨(some 12), none, .call (.const (.func (.func F.podiumref56_FewSpans) [] [])) [(.tmp 11)]⟩,
    ⟨(some 13), none, .val (.un .not (.tmp 12))⟩] [11, 12])
  (.cond (.tmp 13)
  (.seq (.region [
    ⟨(some 4), none, .val (.mv (.const (.bool true)))⟩] [])
  .ret)
  .skip))
  (.seq (.region [
    ⟨(some 15), none, .val (.mv (.tmp 0))⟩,
    ⟨(some 16), none, .val (.mv (.tmp 1))⟩,
    ⟨(some 17), none, .call (.const (.func (.func F.risk_Margin) [] [])) [(.tmp 15), (.tmp 16)]⟩,
    ⟨(some 14), none, .val (.mv (.tmp 17))⟩,
    ⟨(some 18), none, .val (.extract 0 (.tmp 14))⟩,
    ⟨(some 19), none, .val (.extract 1 (.tmp 14))⟩,
    ⟨(some 5), none, .val (.mv (.tmp 18))⟩,
    ⟨(some 6), none, .val (.mv (.tmp 19))⟩] [15, 16, 17, 14, 18, 19])
  (.seq (.region [
    ⟨(some 21), none, .val (.mv (.tmp 0))⟩,
    ⟨(some 22), none, .val (.mv (.tmp 1))⟩,
    ⟨(some 23), none, .call (.const (.func (.func F.podiumref56_Margin) [] [])) [(.tmp 21), (.tmp 22)]⟩,
    ⟨(some 20), none, .val (.mv (.tmp 23))⟩,
    ⟨(some 24), none, .val (.extract 0 (.tmp 20))⟩,
    ⟨(some 25), none, .val (.extract 1 (.tmp 20))⟩,
    ⟨(some 7), none, .val (.mv (.tmp 24))⟩,
    ⟨(some 8), none, .val (.mv (.tmp 25))⟩] [21, 22, 23, 20, 24, 25])
  (.seq (.region [
    ⟨(some 26), none, .val (.mv (.tmp 5))⟩,
    ⟨(some 27), none, .val (.mv (.tmp 7))⟩,
    ⟨(some 28), none, .val (.bin .eql T.int (.tmp 26) (.tmp 27))⟩,
    ⟨(some 29), none, .val (.mv (.tmp 28))⟩,
    ⟨(some 30), (some (29, true)), .val (.mv (.tmp 6))⟩,
    ⟨(some 31), (some (29, true)), .val (.mv (.tmp 8))⟩,
    ⟨(some 32), (some (29, true)), .val (.bin .eql T.apiErrno (.tmp 30) (.tmp 31))⟩,
    ⟨(some 33), none, .val (.pick (.tmp 29) (.tmp 32) (.const (.bool false)))⟩,
    ⟨(some 4), none, .val (.mv (.tmp 33))⟩] [26, 27, 28, 29, 30, 31, 32, 33])
  .ret))))))⟩
theorem H.podiumlaw56_RiskMarginSpec : Has P F.podiumlaw56_RiskMarginSpec C.podiumlaw56_RiskMarginSpec := ⟨Try.f3, Try.func3, by kernel_rfl, by kernel_rfl⟩
end Go.Proofs.Ytiaebckdjklnoaa
/- The reference's Margin. -/
namespace Go.Proofs.Ytiaebckdjklnoaa
open Go.Pv
set_option maxRecDepth 100000
set_option maxHeartbeats 8000000
/-- The first of the greatest, so far. -/
def gAt (l : List Int) : Nat → Nat
  | 0 => 0
  | i + 1 => if l.getD (gAt l i) 0 < l.getD i 0 then i else gAt l i
theorem gAt_lt (l : List Int) : ∀ i, 0 < i → gAt l i < i
  | 1, _ => by simp [gAt]
  | i + 2, _ => by
    have := gAt_lt l (i + 1) (by omega)
    rw [gAt]
    split <;> omega
theorem gAt_top (l : List Int) : ∀ i j, j < i → l.getD j 0 ≤ l.getD (gAt l i) 0
  | i + 1, j, h => by
    rw [gAt]
    by_cases e : j = i
    · subst e
      split
      · exact Int.le_refl _
      · omega
    · have ih := gAt_top l i j (by omega)
      split
      · omega
      · exact ih
theorem few_spans (t : Bool) (l : List Int) (st : Store) : Rets P F.podiumref56_FewSpans [intLst t l] st (.bool (decide (l.length ≤ 40) || (decide (4096 < l.length) && decide (l.length ≤ 4200)))) := by
  by_cases h1 : l.length ≤ 40
  · have k1 : (l.length : Int) ≤ 40 := by omega
    rw [decide_eq_true h1, Bool.true_or]
    refine H.podiumref56_FewSpans.pure hmix rfl rfl ?_
    repeat' (simp -dsimp -implicitDefEqProofs [*])
  · have k1 : ¬ (l.length : Int) ≤ 40 := by omega
    rw [decide_eq_false h1, Bool.false_or]
    by_cases h2 : 4096 < l.length
    · have k2 : (4096 : Int) < l.length := by omega
      rw [decide_eq_true h2, Bool.true_and]
      by_cases h3 : l.length ≤ 4200
      · have k3 : (l.length : Int) ≤ 4200 := by omega
        rw [decide_eq_true h3]
        clear h1 h2 h3
        refine H.podiumref56_FewSpans.pure hmix rfl rfl ?_
        repeat' (simp -dsimp -implicitDefEqProofs [*])
      · have k3 : ¬ (l.length : Int) ≤ 4200 := by omega
        rw [decide_eq_false h3]
        clear h1 h2 h3
        refine H.podiumref56_FewSpans.pure hmix rfl rfl ?_
        repeat' (simp -dsimp -implicitDefEqProofs [*])
    · have k2 : ¬ (4096 : Int) < l.length := by omega
      rw [decide_eq_false h2, Bool.false_and]
      clear h1 h2
      refine H.podiumref56_FewSpans.pure hmix rfl rfl ?_
      repeat' (simp -dsimp -implicitDefEqProofs [*])
theorem greatest_spec (t : Bool) (l : List Int) (hl : l.length ≤ 40) (st : Store) : Rets P F.podiumref56_greatest [intLst t l] st (.int (gAt l l.length)) := by
  refine H.podiumref56_greatest.pure hmix rfl rfl ?_
  repeat' (simp -dsimp -implicitDefEqProofs [*])
  have g0 : gAt l 0 = 0 := rfl
  refine xloop_for (fun y : Nat => [(0, intLst t l), (3, .int (gAt l y)), (4, .int y)]) (fun _ => st) (fun y => y ≤ l.length) (fun y => l.length - y) 0 (Nat.zero_le _) (by simp [g0]) (.refl _) ?_
  clear g0
  intro i hi
  by_cases hil : i < l.length
  · have x5 := wrap_succ (n := i) (by omega)
    have hp : gAt l i < l.length := by
      rcases Nat.eq_zero_or_pos i with e | e
      · subst e; exact hil
      · have := gAt_lt l i e; omega
    obtain ⟨p, hp2⟩ : ∃ p, p = gAt l i := ⟨_, rfl⟩
    have hs : gAt l (i + 1) = if l.getD p 0 < l.getD i 0 then i else p := by rw [hp2]; rfl
    rw [← hp2] at hp ⊢
    rw [List.getD_eq_getElem?_getD, List.getD_eq_getElem?_getD, List.getElem?_eq_getElem hp, List.getElem?_eq_getElem hil] at hs
    simp only [Option.getD_some] at hs
    clear hp2
    by_cases h1 : l[p] < l[i]
    · rw [if_pos h1] at hs
      have kh : Hid _ := ⟨hs⟩
      clear hs
      repeat' (simp -dsimp -implicitDefEqProofs [*])
      exact Next.intro (i + 1) hil (by omega) (by simp [kh.out]) (.refl _)
    · rw [if_neg h1] at hs
      have kh : Hid _ := ⟨hs⟩
      clear hs
      repeat' (simp -dsimp -implicitDefEqProofs [*])
      exact Next.intro (i + 1) hil (by omega) (by simp [kh.out]) (.refl _)
  · have e : i = l.length := by omega
    subst e
    repeat' (simp -dsimp -implicitDefEqProofs [*])
theorem sortL_nil : sortL [] = [] := sortL_eq (fun x hx => by simp at hx) List.Pairwise.nil (.refl _)
/-- The greatest taken out. -/
theorem sortL_out {l : List Int} (hl : Small62 l) (h : 0 < l.length) : ∃ h2 : gAt l l.length < l.length, sortL l = l[gAt l l.length] :: sortL (l.take (gAt l l.length) ++ l.drop (gAt l l.length + 1)) := by
  have h2 := gAt_lt l l.length h
  refine ⟨h2, ?_⟩
  have top : ∀ x ∈ l, x ≤ l[gAt l l.length] := fun x hx => by
    obtain ⟨j, hj, e⟩ := List.getElem_of_mem hx
    have := gAt_top l l.length j hj
    rw [List.getD_eq_getElem?_getD, List.getD_eq_getElem?_getD, List.getElem?_eq_getElem hj, List.getElem?_eq_getElem h2] at this
    simp only [Option.getD_some] at this
    omega
  have hs : ∀ x ∈ l.take (gAt l l.length) ++ l.drop (gAt l l.length + 1), x ∈ l := fun x hx => by
    rcases List.mem_append.1 hx with h | h
    · exact List.mem_of_mem_take h
    · exact List.mem_of_mem_drop h
  obtain ⟨p1, f1⟩ := sortL_facts (l := l.take (gAt l l.length) ++ l.drop (gAt l l.length + 1)) (fun x hx => hl x (hs x hx))
  have e : l = l.take (gAt l l.length) ++ l[gAt l l.length] :: l.drop (gAt l l.length + 1) := by
    rw [← List.drop_eq_getElem_cons h2, List.take_append_drop]
  refine sortL_eq hl (List.pairwise_cons.2 ⟨fun y hy => top y (hs y (p1.mem_iff.1 hy)), f1⟩) ?_
  refine ((List.perm_cons _).2 p1).trans ?_
  conv => rhs; rw [e]
  exact List.perm_middle.symm
theorem sortL_out2 {l : List Int} (hl : Small62 l) (h : 0 < l.length) : ∃ (p : Nat) (hp : p < l.length), p = gAt l l.length ∧ sortL l = l[p] :: sortL (l.take p ++ l.drop (p + 1)) :=
  ⟨_, (sortL_out hl h).1, rfl, (sortL_out hl h).2⟩
theorem margin_longL (gap : Int) (t : Bool) (l : List Int) (hn : 4096 < l.length) (st : Store) : Rets P F.risk_Margin [.int gap, intLst t l] st (.tuple [.int 0, .int 2]) := by
  have h : (4096 : Int) < l.length := by omega
  clear hn
  refine H.risk_Margin.view hmix rfl rfl ?_
  repeat' (simp -dsimp -implicitDefEqProofs [*])
  exact RetView.drop (st' := st) (by repeat' (first | exact StLe.refl _ | (refine StLe_cons (by simp [*]; done) ?_) | (refine StLe_fresh (by simp [*]; done) ?_))) ⟨rfl, rfl⟩
theorem rmargin_long (gap : Int) (t : Bool) (l : List Int) (hn : 4096 < l.length) (st : Store) : Rets P F.podiumref56_Margin [.int gap, intLst t l] st (.tuple [.int 0, .int 2]) := by
  have h : (4096 : Int) < l.length := by omega
  clear hn
  refine H.podiumref56_Margin.pure hmix rfl rfl ?_
  repeat' (simp -dsimp -implicitDefEqProofs [*])
theorem rmargin_neg (gap : Int) (h : ¬ (0 ≤ gap ∧ gap ≤ 1099511627776)) (t : Bool) (l : List Int) (hn : l.length ≤ 40) (st : Store) : Rets P F.podiumref56_Margin [.int gap, intLst t l] st (.tuple [.int 0, .int 1]) := by
  have h0 : ¬ (4096 : Int) < l.length := by omega
  clear hn
  by_cases h1 : gap < 0
  · clear h
    refine H.podiumref56_Margin.pure hmix rfl rfl ?_
    repeat' (simp -dsimp -implicitDefEqProofs [*])
  · have h2 : 1099511627776 < gap := by omega
    have h3 : 0 ≤ gap := by omega
    clear h
    refine H.podiumref56_Margin.pure hmix rfl rfl ?_
    repeat' (simp -dsimp -implicitDefEqProofs [*])
theorem rmargin_bad {gap : Int} {l : List Int} (hg : 0 ≤ gap ∧ gap ≤ 1099511627776) (h : ¬ ∀ x ∈ l, 0 ≤ x ∧ x ≤ 1048576) (hn : l.length ≤ 40) (t : Bool) (st : Store) : Rets P F.podiumref56_Margin [.int gap, intLst t l] st (.tuple [.int 0, .int 1]) := by
  have h0 : ¬ (4096 : Int) < l.length := by omega
  obtain ⟨g1, g2⟩ := hg
  have kh : Hid _ := ⟨h⟩
  clear h
  refine H.podiumref56_Margin.pure hmix rfl rfl ?_
  repeat' (simp -dsimp -implicitDefEqProofs [*])
  refine xloop_for (fun y : Nat => [(6, .int y), (1, intLst t l)]) (fun _ => st) (fun y => y ≤ l.length ∧ Hid (∀ x ∈ l.take y, 0 ≤ x ∧ x ≤ 1048576)) (fun y => l.length - y) 0 ⟨Nat.zero_le _, ⟨by simp⟩⟩ (by simp) (.refl _) ?_
  rintro i ⟨hi, hj⟩
  by_cases hil : i < l.length
  · have x5 := wrap_succ (n := i) (by omega)
    by_cases k0 : 0 ≤ l[i]
    · by_cases k1 : l[i] ≤ 1048576
      · have hj2 : Hid (∀ x ∈ l.take (i + 1), 0 ≤ x ∧ x ≤ 1048576) := ⟨fun x hx => by
          rw [List.take_succ_eq_append_getElem hil, List.mem_append, List.mem_singleton] at hx
          rcases hx with hx | hx
          · exact hj.out x hx
          · rw [hx]; exact ⟨k0, k1⟩⟩
        clear hj kh
        repeat' (simp -dsimp -implicitDefEqProofs [*])
        exact Next.intro (i + 1) ⟨hil, hj2⟩ (by omega) (by simp) (.refl _)
      · clear hj kh
        repeat' (simp -dsimp -implicitDefEqProofs [*])
    · clear hj kh
      repeat' (simp -dsimp -implicitDefEqProofs [*])
  · have e : i = l.length := by omega
    subst e
    have := hj.out
    rw [List.take_length] at this
    exact absurd this kh.out
theorem rmargin_spec {gap : Int} {l : List Int} (h : MargIn gap l) (hn : l.length ≤ 40) {v : Nat} (hv : Marg (sortL l) gap v) (t : Bool) (st : Store) : Rets P F.podiumref56_Margin [.int gap, intLst t l] st (.tuple [.int v, .int 0]) := by
  have h0 : ¬ (4096 : Int) < l.length := by omega
  obtain ⟨⟨g1, g2⟩, hl⟩ := h
  have kv : Hid _ := ⟨hv⟩
  have kl : Hid _ := ⟨hl⟩
  clear hv hl
  refine H.podiumref56_Margin.pure hmix rfl rfl ?_
  repeat' (simp -dsimp -implicitDefEqProofs [*])
  refine xloop_for (fun y : Nat => [(6, .int y), (1, intLst t l), (0, .int gap)]) (fun _ => st) (fun y => y ≤ l.length) (fun y => l.length - y) 0 (Nat.zero_le _) (by simp) (.refl _) ?_
  intro i hi
  by_cases hil : i < l.length
  · have x5 := wrap_succ (n := i) (by omega)
    obtain ⟨k0, k1⟩ := kl.out l[i] (List.getElem_mem hil)
    clear kv kl
    repeat' (simp -dsimp -implicitDefEqProofs [*])
    exact Next.intro (i + 1) hil (by omega) (by simp) (.refl _)
  have e : i = l.length := by omega
  subst e
  clear hi hil
  by_cases he : l = []
  · subst he
    clear kl
    repeat' (first 
     | (with_reducible refine Lit.imm ?_)
     | (simp -dsimp -implicitDefEqProofs [*]))
    refine xloop_for (fun _ : Unit => [(8, .int 0), (7, .list true [] 0), (0, .int gap)]) (fun _ => st) (fun _ => True) (fun _ => 0) () trivial (by simp) (.refl _) ?_
    rintro - -
    by_cases hg0 : 0 < gap
    · have e : v = 1 := kv.out.uniq (by rw [sortL_nil]; exact Marg.none (s := []) (gap := gap) fun j hj => by simpa using hg0)
      subst e
      clear kv
      repeat' (simp -dsimp -implicitDefEqProofs [*])
    · have e : v = 0 := kv.out.uniq (by rw [sortL_nil]; exact Marg.reach (s := []) (gap := gap) (w := 0) (by simp) (Nat.zero_le _) (fun j hj => absurd hj (Nat.not_lt_zero _)) (by simp; omega))
      subst e
      clear kv
      repeat' (simp -dsimp -implicitDefEqProofs [*])
  repeat' (first 
   | (with_reducible refine Lit.imm ?_)
   | ((with_reducible refine Grow.intro ?_ fun b cap hb hc1 hc2 => ?_); omega) <;> (try simp -dsimp -implicitDefEqProofs [*] at hb)
   | (simp -dsimp -implicitDefEqProofs [*]))
  clear he h0
  have ks : Hid (Small62 l) := ⟨fun x hx => by have := kl.out x hx; omega⟩
  have ls : Hid ((sortL l).length = l.length) := ⟨(sortL_facts ks.out).1.length_eq⟩
  have nn : Hid (∀ x ∈ sortL l, 0 ≤ x) := ⟨fun x hx => (kl.out x ((sortL_facts ks.out).1.mem_iff.1 hx)).1⟩
  refine xloop_view (σ := Nat × List Int × Int) (fun y => [(8, .int y.1), (7, intLst false y.2.1), (0, .int y.2.2)]) (fun _ => st)
    (fun y => y.1 ≤ l.length ∧ y.2.1.length = l.length - y.1 ∧ y.2.2 ≤ 1099511627776 ∧ Hid (y.2.2 = gap - ((sortL l).take y.1).sum ∧ (∀ j, j < y.1 → ((sortL l).take j).sum < gap) ∧ (∀ x ∈ y.2.1, 0 ≤ x ∧ x ≤ 1048576) ∧ sortL y.2.1 = (sortL l).drop y.1))
    (fun y => l.length + 1 - y.1) (0, l, gap) ⟨Nat.zero_le _, by simp, g2, ⟨by simp, fun j hj => absurd hj (Nat.not_lt_zero _), kl.out, by simp⟩⟩
    (View.frz (b := b) (o := .arr T.int (intRow l ++ List.replicate (cap - l.length) PV.any)) (by simp [*]) (by repeat' (first | exact StLe.refl _ | (refine StLe_cons (by simp [*]; done) ?_) | (refine StLe_fresh (by simp [*]; done) ?_))) ?_) ?_
  · simp [Frz.refl]
    have h := Frz.own (b := b) (o := .arr T.int (intRow l ++ List.replicate (cap - l.length) PV.any)) T.int _ 0 l.length cap 1 rfl (by omega) hc2
    rw [List.drop_zero, Nat.mul_one, List.take_append_of_le_length (by simp), List.take_of_length_le (by simp)] at h
    exact h
  rintro ⟨c, L, g⟩ ⟨h1, h2, h3, h4⟩
  simp only at h1 h2 h3 h4 ⊢
  by_cases hg0 : 0 < g
  · have x5 := wrap_succ (n := c) (by omega)
    have hj : ∀ j, j < c + 1 → ((sortL l).take j).sum < gap := fun j hj => by
      rcases Nat.lt_succ_iff_lt_or_eq.1 hj with h5 | h5
      · exact h4.out.2.1 j h5
      · have := h4.out.1; rw [h5]; omega
    by_cases hL : L = []
    · subst hL
      have e : v = c + 1 := by
        have hc : c = (sortL l).length := by rw [ls.out]; simp at h2; omega
        have := kv.out.uniq (Marg.none (s := sortL l) (gap := gap) fun j hj2 => hj j (by omega))
        omega
      subst e
      clear kv hj h4 kl ks nn h2
      repeat' (simp -dsimp -implicitDefEqProofs [*])
    · have hLp : 0 < L.length := List.length_pos_iff.2 hL
      have sL : Small62 L := fun x hx => by have := h4.out.2.2.1 x hx; omega
      obtain ⟨p, hp, hp2, so⟩ := sortL_out2 sL hLp
      have cg := greatest_spec false L (by omega)
      have hx := h4.out.2.2.1 _ (List.getElem_mem hp)
      rw [← hp2] at cg
      have x6 : IntKind.i64.wrap (g - L[p]) = g - L[p] := wrap_in (by omega) (by omega)
      have x7 := wrap_succ (n := p) (by omega)
      have hl1 : (L.take p).length = p := by rw [List.length_take]; omega
      have hl2 : (L.drop (p + 1)).length = L.length - (p + 1) := List.length_drop
      have inv : Hid (c + 1 ≤ l.length ∧ (L.take p ++ L.drop (p + 1)).length = l.length - (c + 1) ∧ g - L[p] ≤ 1099511627776 ∧ Hid (g - L[p] = gap - ((sortL l).take (c + 1)).sum ∧ (∀ j, j < c + 1 → ((sortL l).take j).sum < gap) ∧ (∀ x ∈ L.take p ++ L.drop (p + 1), 0 ≤ x ∧ x ≤ 1048576) ∧ sortL (L.take p ++ L.drop (p + 1)) = (sortL l).drop (c + 1))) := by
        have hc : c < (sortL l).length := by rw [ls.out]; omega
        have h5 := h4.out.2.2.2
        rw [so, List.drop_eq_getElem_cons hc] at h5
        obtain ⟨h6, h7⟩ := List.cons.inj h5
        refine ⟨⟨by omega, by rw [List.length_append, hl1, hl2]; omega, by omega, ⟨?_, hj, fun x hx => ?_, h7⟩⟩⟩
        · rw [List.take_succ_eq_append_getElem hc, List.sum_append, ← h6]
          have := h4.out.1
          simp only [List.sum_cons, List.sum_nil]
          omega
        · refine h4.out.2.2.1 x ?_
          rcases List.mem_append.1 hx with h | h
          · exact List.mem_of_mem_take h
          · exact List.mem_of_mem_drop h
      have h240 : L.length ≤ 40 := by omega
      have k1 : Hid ((L.take p).length = p ∧ (L.drop (p + 1)).length = L.length - (p + 1)) := ⟨hl1, hl2⟩
      clear so hj hp2 sL hx hl1 hl2 h2 h4 kv kl nn ls ks h3 hn g1 g2
      have hLn : ¬ L.length = 0 := by omega
      repeat' (first 
       | (with_reducible refine Rets.xcall (cg _) ?_)
       | (with_reducible refine DrawLate.intro [] ?_)
       | ((with_reducible refine and_keep ?_ fun hk => ?_); omega)
       | (simp -dsimp -implicitDefEqProofs [-xappend_list, *]))
      refine xappend_accQ (T := T.int) (bytes := 8) (st := st) intRow_len intRow_append none trivial (L.take p) (intRow_take L p).symm k1.out.1 (by simp [accL]; omega) fun o ho hl => ?_
      have hl : accL o = L.take p := hl
      have cls := Cls_acc (T := T.int) (M := []) ho (Cls.self st _)
      repeat' (first 
       | (with_reducible refine Cls_and ?_ ?_)
       | (simp -dsimp -implicitDefEqProofs [-xappend_list, *]))
      refine xappend_accQ (T := T.int) (bytes := 8) (st := st) intRow_len intRow_append o ho (L.drop (p + 1)) (intRow_drop L (p + 1)).symm k1.out.2 (by rw [hl, k1.out.1]; omega) fun o2 ho2 hl2 => ?_
      rw [hl] at hl2
      have cls2 := Cls_acc (T := T.int) (M := []) ho2 (Cls.self st _)
      clear cls ho hl
      repeat' (first 
       | (with_reducible refine Cls_and ?_ ?_)
       | (simp -dsimp -implicitDefEqProofs [-xappend_list, *]))
      clear cls2
      refine Next.view (c + 1, L.take p ++ L.drop (p + 1), g - L[p]) inv.out (by simp only; omega) ?_
      rw [← hl2]
      cases o2 with
      | none =>
        refine View.ple (.refl _) ?_
        simp [accQ, accL, PLe.refl]
        exact PLe.loose
      | some a =>
        refine View.frz (b := a.b) (o := .arr T.int a.R) ho2.2 (.refl _) ?_
        simp [accQ, accL, Frz.refl]
        exact Frz.acc ho2.1
  · have e : v = c := by
      have := h4.out.1
      exact kv.out.uniq (Marg.reach (s := sortL l) (gap := gap) (w := c) nn.out (by have := ls.out; omega) h4.out.2.1 (by omega))
    subst e
    clear kv h4 kl ks nn
    repeat' (simp -dsimp -implicitDefEqProofs [*])
theorem margin_spec_law (gap : Int) (t : Bool) (l : List Int) (st : Store) : Rets P F.podiumlaw56_RiskMarginSpec [.int gap, intLst t l] st (.bool true) := by
  have cf := few_spans t l
  by_cases h1 : l.length ≤ 40
  · rw [decide_eq_true h1, Bool.true_or] at cf
    have key : ∃ v e : Int, (∀ st, Rets P F.risk_Margin [.int gap, intLst t l] st (.tuple [.int v, .int e])) ∧ ∀ st, Rets P F.podiumref56_Margin [.int gap, intLst t l] st (.tuple [.int v, .int e]) := by
      by_cases hm : MargIn gap l
      · obtain ⟨v, hv⟩ := Marg.ex (s := sortL l) (fun x hx => (hm.2 x ((sortL_facts hm.small).1.mem_iff.1 hx)).1) gap
        exact ⟨v, 0, margin_spec hm (by omega) hv t, rmargin_spec hm h1 hv t⟩
      · by_cases hg : 0 ≤ gap ∧ gap ≤ 1099511627776
        · exact ⟨0, 1, margin_bad hg (fun h => hm ⟨hg, h⟩) (by omega) t, rmargin_bad hg (fun h => hm ⟨hg, h⟩) h1 t⟩
        · exact ⟨0, 1, margin_neg gap (by unfold wi; simp; omega) t l (by omega), rmargin_neg gap hg t l h1⟩
    obtain ⟨v, e, c1, c2⟩ := key
    clear h1
    refine H.podiumlaw56_RiskMarginSpec.pure hmix rfl rfl ?_
    repeat' (first 
     | (with_reducible refine Rets.xcall (sane_spec _) ?_)
     | (with_reducible refine Rets.xcall (cf _) ?_)
     | (with_reducible refine Rets.xcall (c1 _) ?_)
     | (with_reducible refine Rets.xcall (c2 _) ?_)
     | (simp -dsimp -implicitDefEqProofs [*]))
  · rw [decide_eq_false h1, Bool.false_or] at cf
    by_cases h2 : 4096 < l.length
    · have c1 := fun st => margin_longL gap t l h2 st
      have c2 := rmargin_long gap t l h2
      obtain ⟨f, hf⟩ : ∃ f, f = (decide (4096 < l.length) && decide (l.length ≤ 4200)) := ⟨_, rfl⟩
      rw [← hf] at cf
      clear h1 h2 hf
      cases f with
      | true =>
        refine H.podiumlaw56_RiskMarginSpec.pure hmix rfl rfl ?_
        repeat' (first 
         | (with_reducible refine Rets.xcall (sane_spec _) ?_)
         | (with_reducible refine Rets.xcall (cf _) ?_)
         | (with_reducible refine Rets.xcall (c1 _) ?_)
         | (with_reducible refine Rets.xcall (c2 _) ?_)
         | (simp -dsimp -implicitDefEqProofs [*]))
      | false =>
        clear c1 c2
        refine H.podiumlaw56_RiskMarginSpec.pure hmix rfl rfl ?_
        repeat' (first 
         | (with_reducible refine Rets.xcall (sane_spec _) ?_)
         | (with_reducible refine Rets.xcall (cf _) ?_)
         | (simp -dsimp -implicitDefEqProofs [*]))
    · rw [decide_eq_false h2, Bool.false_and] at cf
      clear h1 h2
      refine H.podiumlaw56_RiskMarginSpec.pure hmix rfl rfl ?_
      repeat' (first 
       | (with_reducible refine Rets.xcall (sane_spec _) ?_)
       | (with_reducible refine Rets.xcall (cf _) ?_)
       | (simp -dsimp -implicitDefEqProofs [*]))
end Go.Proofs.Ytiaebckdjklnoaa
