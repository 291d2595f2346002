/- Points of the lines of a standing. -/
import Derived.Test.YtgjgcflgjpigpaaS26ZF
import Derived.Test.YtgjgcflgjpigpaaS26ZI
import Derived.Test.YtgjgcflgjpigpaaLLx
import Derived.Test.YtgjgcflgjpigpaaS26RH
namespace Go.Proofs.Ytgjgcflgjpigpaa
open Go.Pv
set_option maxRecDepth 100000
set_option maxHeartbeats 8000000
structure PtsK (Q : List Int) (p : List Pl) (E : Int) (M : List Int) : Prop where
  k1 : 64 < Q.length → E = 2 ∧ M = []
  k2 : Q.length ≤ 64 → (Q.all amt = false ∨ fallB Q = false) → E = 260 ∧ M = []
  k3 : Q.length ≤ 64 → Q.all amt = true → fallB Q = true → plE p ≠ 0 → E = plE p ∧ M = []
  k4 : Q.length ≤ 64 → Q.all amt = true → fallB Q = true → plE p = 0 → E = 0 ∧ M = p.map fun x => ptOf Q x.rank
noncomputable def ptsE (Q : List Int) (p : List Pl) : Int := if 64 < Q.length then 2 else if Q.all amt && fallB Q then plE p else 260
noncomputable def ptsL (Q : List Int) (p : List Pl) : List Int := if ptsE Q p = 0 then p.map fun x => ptOf Q x.rank else []
theorem pts_k (Q : List Int) (p : List Pl) : PtsK Q p (ptsE Q p) (ptsL Q p) := by
  have nz : ptsE Q p ≠ 0 → ptsL Q p = [] := fun h => by unfold ptsL; rw [if_neg h]
  refine ⟨fun h => ?_, fun h h2 => ?_, fun h h2 h3 h4 => ?_, fun h h2 h3 h4 => ?_⟩
  · have e : ptsE Q p = 2 := by unfold ptsE; rw [if_pos h]
    exact ⟨e, nz (by omega)⟩
  · have e : ptsE Q p = 260 := by
      unfold ptsE
      rw [if_neg (by omega), if_neg]
      rcases h2 with h2 | h2 <;> simp [h2]
    exact ⟨e, nz (by omega)⟩
  · have e : ptsE Q p = plE p := by unfold ptsE; rw [if_neg (by omega), h2, h3]; rfl
    exact ⟨e, nz (by rw [e]; exact h4)⟩
  · have e : ptsE Q p = 0 := by unfold ptsE; rw [if_neg (by omega), h2, h3]; exact h4
    exact ⟨e, by unfold ptsL; rw [if_pos e]⟩
theorem ptOf_in {Q : List Int} {r : Int} {i : Nat} (h : r = i + 1) (hi : i < Q.length) : ptOf Q r = Q[i] := by
  unfold ptOf
  rw [if_pos (by omega), show (r - 1).toNat = i by omega]
  simp [hi]
theorem points_spec (t u : Bool) (Q : List Int) (hT : Q.length ≤ 9223372036854775807) (p : List Pl) (hp : p.length ≤ 9223372036854775807) (st : Store) : Rets P F.season_Points [intLst t Q, Pl.lst u p] st (.tuple [intLst false (ptsL Q p), .int (ptsE Q p)]) := by
  have k := pts_k Q p
  obtain ⟨E, hE⟩ : ∃ E, E = ptsE Q p := ⟨_, rfl⟩
  obtain ⟨M, hM⟩ : ∃ M, M = ptsL Q p := ⟨_, rfl⟩
  rw [← hE, ← hM] at k ⊢
  clear hE hM
  refine H.season_Points.view hmix rfl rfl ?_
  by_cases n1 : 64 < Q.length
  · obtain ⟨rfl, rfl⟩ := k.k1 n1
    have n1' : (64 : Int) < Q.length := by omega
    clear k
    repeat' (simp -dsimp -implicitDefEqProofs [*])
    exact .sees (.tuple2l (.nil0 _)) (RetView.drop (st' := st) (by repeat' (first | exact StLe.refl _ | (refine StLe_cons (by simp [*]; done) ?_) | (refine StLe_fresh (by simp [*]; done) ?_))) ⟨rfl, rfl⟩)
  have n1' : ¬ (64 : Int) < Q.length := by omega
  have hlt : Q.length ≤ 64 := by omega
  have ca := amounts_spec t Q hT
  have cs := sorted_spec t Q (by omega)
  have cp := plCheck_spec u p hp (plE_k p)
  have kk : Hid _ := ⟨k⟩
  have hz : Hid (plE p = 0 → p.length ≤ 4096 ∧ Pl.Right p) := ⟨fun h => plE_zero h⟩
  have ham : Hid (Q.all amt = true → ∀ x ∈ Q, amt x = true) := ⟨fun h => List.all_eq_true.1 h⟩
  clear k n1
  obtain ⟨va, ya⟩ : ∃ v, v = Q.all amt := ⟨_, rfl⟩
  obtain ⟨vs, ys⟩ : ∃ v, v = fallB Q := ⟨_, rfl⟩
  obtain ⟨e, ye⟩ : ∃ v, v = plE p := ⟨_, rfl⟩
  rw [← ya] at ca ham
  rw [← ys] at cs
  rw [← ye] at cp hz
  have qa : Hid _ := ⟨ya⟩
  have qs : Hid _ := ⟨ys⟩
  have qe : Hid _ := ⟨ye⟩
  clear ya ys ye
  cases va with
  | false =>
    obtain ⟨rfl, rfl⟩ := kk.out.k2 hlt (.inl qa.out.symm)
    clear kk hz ham qa qs qe
    cases vs
    all_goals
      repeat' (first 
       | (with_reducible refine Rets.xcall (ca _) ?_)
       | (with_reducible refine Rets.xcall (cs _) ?_)
       | (simp -dsimp -implicitDefEqProofs [*]))
      exact .sees (.tuple2l (.nil0 _)) (RetView.drop (st' := st) (by repeat' (first | exact StLe.refl _ | (refine StLe_cons (by simp [*]; done) ?_) | (refine StLe_fresh (by simp [*]; done) ?_))) ⟨rfl, rfl⟩)
  | true =>
  cases vs with
  | false =>
    obtain ⟨rfl, rfl⟩ := kk.out.k2 hlt (.inr qs.out.symm)
    clear kk hz ham qa qs qe
    repeat' (first 
     | (with_reducible refine Rets.xcall (ca _) ?_)
     | (with_reducible refine Rets.xcall (cs _) ?_)
     | (simp -dsimp -implicitDefEqProofs [*]))
    exact .sees (.tuple2l (.nil0 _)) (RetView.drop (st' := st) (by repeat' (first | exact StLe.refl _ | (refine StLe_cons (by simp [*]; done) ?_) | (refine StLe_fresh (by simp [*]; done) ?_))) ⟨rfl, rfl⟩)
  | true =>
  by_cases he : e = 0
  case neg =>
    obtain ⟨rfl, rfl⟩ := kk.out.k3 hlt qa.out.symm qs.out.symm (by rw [← qe.out]; exact he)
    rw [← qe.out]
    clear kk hz ham qa qs qe
    repeat' (first 
     | (with_reducible refine Rets.xcall (ca _) ?_)
     | (with_reducible refine Rets.xcall (cs _) ?_)
     | (with_reducible refine Rets.xcall (cp _) ?_)
     | (simp -dsimp -implicitDefEqProofs [*]))
    exact .sees (.tuple2l (.nil0 _)) (RetView.drop (st' := st) (by repeat' (first | exact StLe.refl _ | (refine StLe_cons (by simp [*]; done) ?_) | (refine StLe_fresh (by simp [*]; done) ?_))) ⟨rfl, rfl⟩)
  subst he
  obtain ⟨rfl, rfl⟩ := kk.out.k4 hlt qa.out.symm qs.out.symm qe.out.symm
  obtain ⟨hpl, hR0⟩ := hz.out rfl
  have hR : Hid _ := ⟨hR0⟩
  clear hR0
  clear kk hz ham qa qs qe
  repeat' (first 
   | (with_reducible refine Rets.xcall (ca _) ?_)
   | (with_reducible refine Rets.xcall (cs _) ?_)
   | (with_reducible refine Rets.xcall (cp _) ?_)
   | (simp -dsimp -implicitDefEqProofs [-xappend_list, *]))
  clear ca cs cp
  refine xloop_for (fun s : Nat × Option (Acc Int) => [(0, intLst t Q), (4, accP s.2), (28, Pl.lst u p), (29, .int p.length), (30, .int s.1)]) (fun s => accS T.int st s.2)
    (fun s => s.1 ≤ p.length ∧ accOk intRow 1 st s.2 ∧ Hid (accL s.2 = (p.take s.1).map fun x => ptOf Q x.rank)) (fun s => p.length - s.1) (0, none) ⟨by simp, trivial, ⟨by simp⟩⟩ (by simp) (.refl _) ?_
  rintro ⟨i, o⟩ ⟨hi, ho, hl⟩
  simp only at hi ho hl
  by_cases hil : i < p.length
  · have hw := wrap_succ (n := i) (by omega)
    have s0 := Pl.row_sub p i hil
    have hlen : (accL o).length ≤ 4096 := by rw [hl.out, List.length_map, List.length_take]; omega
    have hl2 : Hid (∀ M, M = accL o ++ [ptOf Q p[i].rank] → M = (p.take (i + 1)).map fun x => ptOf Q x.rank) := ⟨fun M h => by rw [h, hl.out, List.take_succ_eq_append_getElem hil, List.map_append]; rfl⟩
    obtain ⟨x, hx⟩ : ∃ x, x = p[i] := ⟨_, rfl⟩
    have hr := Pl.ranks hR.out i hil
    have hxr : Pl.at_ p i = x := by rw [hx]; simp [Pl.at_, hil]
    rw [hxr] at hr
    rw [← hx] at s0 hl2
    clear hl hx hxr
    have hrk : Hid (1 ≤ x.rank ∧ x.rank ≤ i + 1) := ⟨hr⟩
    clear hr
    by_cases hin : x.rank ≤ Q.length
    · obtain ⟨j, hj⟩ : ∃ j : Nat, x.rank = j + 1 := ⟨(x.rank - 1).toNat, by have := hrk.out; omega⟩
      have hjl : j < Q.length := by omega
      have hv := ptOf_in hj hjl
      have g1 := intRow_get Q j hjl
      have wj : IntKind.i64.wrap (x.rank - 1) = (j : Int) := by rw [wrap_in (by omega) (by omega)]; omega
      obtain ⟨v, hv2⟩ : ∃ v, v = Q[j] := ⟨_, rfl⟩
      have g2 : ∀ h, Q[j]'h = v := fun _ => hv2.symm
      rw [← hv2] at hv g1
      rw [hv] at hl2
      clear hv hv2 hj
      repeat' (first 
       | (with_reducible refine Fresh.intro fun b hb => ?_) <;> (try simp -dsimp -implicitDefEqProofs [*] at hb)
       | (with_reducible refine Lit.imm ?_)
       | (simp -dsimp -implicitDefEqProofs [-xappend_list, *]))
      revert b; intro b hb
      obtain ⟨hnb, hns⟩ := accB_new hb
      refine xappend_box intRow_len intRow_append o ho hb [v] (by simp [intRow]) rfl (by omega) (by omega) fun o2 ho2 hl3 => ?_
      have hl4 : Hid _ := ⟨hl2.out _ hl3⟩
      clear hl3 hl2 ho hlen
      repeat' (simp -dsimp -implicitDefEqProofs [-xappend_list, *])
      exact Next.intro (i + 1, o2) ⟨by simp only; omega, accOk.unbox ho2, hl4⟩ (by simp only; omega) (by simp) (StLe.box o2 hns)
    · have hv : ptOf Q x.rank = 0 := ptOf_late (by omega)
      rw [hv] at hl2
      clear hv
      repeat' (first 
       | (with_reducible refine Fresh.intro fun b hb => ?_) <;> (try simp -dsimp -implicitDefEqProofs [*] at hb)
       | (with_reducible refine Lit.imm ?_)
       | (simp -dsimp -implicitDefEqProofs [-xappend_list, *]))
      revert b; intro b hb
      obtain ⟨hnb, hns⟩ := accB_new hb
      refine xappend_box intRow_len intRow_append o ho hb [0] (by simp [intRow]) rfl (by omega) (by omega) fun o2 ho2 hl3 => ?_
      have hl4 : Hid _ := ⟨hl2.out _ hl3⟩
      clear hl3 hl2 ho hlen
      repeat' (simp -dsimp -implicitDefEqProofs [-xappend_list, *])
      exact Next.intro (i + 1, o2) ⟨by simp only; omega, accOk.unbox ho2, hl4⟩ (by simp only; omega) (by simp) (StLe.box o2 hns)
  · obtain rfl : i = p.length := by omega
    clear hil
    repeat' (simp -dsimp -implicitDefEqProofs [*])
    refine RetView.accP2 rfl ho (.same ⟨by rw [hl.out, List.take_length], rfl⟩)
end Go.Proofs.Ytgjgcflgjpigpaa
/- The reference: points of the lines of a standing. -/
namespace Go.Proofs.Ytgjgcflgjpigpaa
open Go.Pv
set_option maxRecDepth 100000
set_option maxHeartbeats 8000000
theorem fallB_steps {L : List Int} (h : ∀ i (h : i + 1 < L.length), L[i + 1] ≤ L[i]) : fallB L = true := by
  refine fallB_iff.2 (fall_iff.2 fun i hi => ?_)
  simpa [show i < L.length by omega, hi] using h i hi
theorem rPoints_spec (t u : Bool) (R : List Int) (p : List Pl) (st : Store) : Rets P F.podiumref26_Points [intLst t R, Pl.lst u p] st (.tuple [intLst false (ptsL R p), .int (ptsE R p)]) := by
  have k := pts_k R p
  obtain ⟨E, hE⟩ : ∃ E, E = ptsE R p := ⟨_, rfl⟩
  obtain ⟨M, hM⟩ : ∃ M, M = ptsL R p := ⟨_, rfl⟩
  rw [← hE, ← hM] at k ⊢
  clear hE hM
  refine H.podiumref26_Points.view hmix rfl rfl ?_
  by_cases n1 : 64 < R.length
  · obtain ⟨rfl, rfl⟩ := k.k1 n1
    have n1' : (64 : Int) < R.length := by omega
    clear k
    repeat' (simp -dsimp -implicitDefEqProofs [*])
    exact .sees (.tuple2l (.nil0 _)) (RetView.drop (st' := st) (by repeat' (first | exact StLe.refl _ | (refine StLe_cons (by simp [*]; done) ?_) | (refine StLe_fresh (by simp [*]; done) ?_))) ⟨rfl, rfl⟩)
  have n1' : ¬ (64 : Int) < R.length := by omega
  have hlt : R.length ≤ 64 := by omega
  have kk : Hid _ := ⟨k⟩
  have kA : Hid (∀ j (h : j < R.length), amt R[j] = false → E = 260 ∧ M = []) := ⟨fun j h ha => kk.out.k2 hlt (.inl (by
    cases e : R.all amt with
    | false => rfl
    | true => rw [List.all_eq_true.1 e _ (List.getElem_mem h)] at ha; cases ha))⟩
  have kB : Hid (∀ j (h : j + 1 < R.length), R[j] < R[j + 1] → E = 260 ∧ M = []) := ⟨fun j h ha => kk.out.k2 hlt (.inr (fallB_not h ha))⟩
  clear k n1
  repeat' (simp -dsimp -implicitDefEqProofs [*])
  refine xloop_for (fun n : Nat => [(0, intLst t R), (1, Pl.lst u p), (6, .int n)]) (fun _ => st) (fun n => n ≤ R.length ∧ Hid (∀ j (h : j < R.length), j < n → amt R[j] = true) ∧ Hid (∀ j (h : j + 1 < R.length), j + 1 < n → R[j + 1] ≤ R[j])) (fun n => R.length - n) 0 ⟨Nat.zero_le _, ⟨fun j _ h => absurd h (by omega)⟩, ⟨fun j _ h => absurd h (by omega)⟩⟩ (by simp) (.refl _) ?_
  clear n1'
  rintro n ⟨hn, hI, hJ⟩
  by_cases hnl : n < R.length
  · have hw := wrap_succ (n := n) (by omega)
    have ca := rAmount_spec R[n]
    have g1 := intRow_get R n hnl
    have kA := Hid.mk (kA.out n hnl)
    have hI2 : Hid (amt R[n] = true → ∀ j (h : j < R.length), j < n + 1 → amt R[j] = true) := ⟨fun h j hj h2 => if e : j = n then by subst e; exact h else hI.out j hj (by omega)⟩
    have kB2 : Hid (∀ m, n = m + 1 → ∃ h : m < R.length, (R[m] < R[n] → E = 260 ∧ M = []) ∧ (R[n] ≤ R[m] → ∀ j (h : j + 1 < R.length), j + 1 < n + 1 → R[j + 1] ≤ R[j])) := ⟨fun m hm => by
      subst hm
      exact ⟨by omega, kB.out m hnl, fun h j hj h2 => if e : j = m then by subst e; exact h else hJ.out j hj (by omega)⟩⟩
    have hJ0 : Hid (n = 0 → ∀ j (h : j + 1 < R.length), j + 1 < n + 1 → R[j + 1] ≤ R[j]) := ⟨fun h j _ h2 => absurd h2 (by omega)⟩
    obtain ⟨v, hv⟩ : ∃ v, v = R[n] := ⟨_, rfl⟩
    have g2 : ∀ h, R[n]'h = v := fun _ => hv.symm
    rw [← hv] at ca kA kB2 g1 hI2
    clear hv hI hJ kB
    cases ha : amt v with
    | false =>
      rw [ha] at ca
      obtain ⟨rfl, rfl⟩ := kA.out ha
      clear ha kA kB2 hJ0 hI2 kk
      repeat' (first 
       | (with_reducible refine Rets.xcall (ca _) ?_)
       | (with_reducible refine DrawLate.intro [] ?_)
       | (simp -dsimp -implicitDefEqProofs [*]))
      exact .sees (.tuple2l (.nil0 _)) (RetView.drop (st' := st) (by repeat' (first | exact StLe.refl _ | (refine StLe_cons (by simp [*]; done) ?_) | (refine StLe_fresh (by simp [*]; done) ?_))) ⟨rfl, rfl⟩)
    | true =>
      rw [ha] at ca
      have hI3 := Hid.mk (hI2.out ha)
      clear ha kA hI2
      by_cases hn0 : 0 < n
      · obtain ⟨m, hm⟩ : ∃ m, n = m + 1 := ⟨n - 1, by omega⟩
        obtain ⟨hml, kC, kD⟩ := kB2.out m hm
        have kC := Hid.mk kC
        have kD := Hid.mk kD
        have wm : IntKind.i64.wrap ((n : Int) - 1) = (m : Int) := by rw [wrap_in (by omega) (by omega)]; omega
        have f1 := intRow_get R m hml
        obtain ⟨y, hy⟩ : ∃ y, y = R[m] := ⟨_, rfl⟩
        have f2 : ∀ h, R[m]'h = y := fun _ => hy.symm
        rw [← hy] at kC kD f1
        rename_i kC0 kD0
        clear hy hm kB2 hJ0 kC0 kD0
        by_cases hlt2 : y < v
        · obtain ⟨rfl, rfl⟩ := kC.out hlt2
          clear kC kD kk
          repeat' (first 
           | (with_reducible refine Rets.xcall (ca _) ?_)
           | (with_reducible refine DrawLate.intro [] ?_)
           | (simp -dsimp -implicitDefEqProofs [*]))
          exact .sees (.tuple2l (.nil0 _)) (RetView.drop (st' := st) (by repeat' (first | exact StLe.refl _ | (refine StLe_cons (by simp [*]; done) ?_) | (refine StLe_fresh (by simp [*]; done) ?_))) ⟨rfl, rfl⟩)
        · have kD2 := Hid.mk (kD.out (by omega))
          clear kC kD
          repeat' (first 
           | (with_reducible refine Rets.xcall (ca _) ?_)
           | (with_reducible refine DrawLate.intro [] ?_)
           | (simp -dsimp -implicitDefEqProofs [*]))
          exact Next.intro (n + 1) ⟨by omega, hI3, kD2⟩ (by omega) (by simp) (by repeat' (first | exact StLe.refl _ | (refine StLe_cons (by simp [*]; done) ?_) | (refine StLe_fresh (by simp [*]; done) ?_)))
      · have kD2 := Hid.mk (hJ0.out (by omega))
        clear kB2 hJ0
        repeat' (first 
         | (with_reducible refine Rets.xcall (ca _) ?_)
         | (with_reducible refine DrawLate.intro [] ?_)
         | (simp -dsimp -implicitDefEqProofs [*]))
        exact Next.intro (n + 1) ⟨by omega, hI3, kD2⟩ (by omega) (by simp) (by repeat' (first | exact StLe.refl _ | (refine StLe_cons (by simp [*]; done) ?_) | (refine StLe_fresh (by simp [*]; done) ?_)))
  obtain rfl : n = R.length := by omega
  have qa : R.all amt = true := List.all_eq_true.2 fun x hx => by
    obtain ⟨j, hj, rfl⟩ := List.mem_iff_getElem.1 hx
    exact hI.out j hj hj
  have qs : fallB R = true := fallB_steps fun j hj => hJ.out j hj hj
  have k3 := Hid.mk (kk.out.k3 hlt qa qs)
  have k4 := Hid.mk (kk.out.k4 hlt qa qs)
  have hz : Hid (plE p = 0 → p.length ≤ 4096 ∧ Pl.Right p) := ⟨fun h => plE_zero h⟩
  have cp := rPlCheck_spec u p (plE_k p)
  clear kk kA kB qa qs hI hJ hnl hn
  obtain ⟨e, ye⟩ : ∃ v, v = plE p := ⟨_, rfl⟩
  rw [← ye] at cp hz k3 k4
  clear ye
  by_cases he : e = 0
  case neg =>
    obtain ⟨rfl, rfl⟩ := k3.out he
    clear k3 k4 hz
    repeat' (first 
     | (with_reducible refine Rets.xcall (cp _) ?_)
     | (simp -dsimp -implicitDefEqProofs [*]))
    exact .sees (.tuple2l (.nil0 _)) (RetView.drop (st' := st) (by repeat' (first | exact StLe.refl _ | (refine StLe_cons (by simp [*]; done) ?_) | (refine StLe_fresh (by simp [*]; done) ?_))) ⟨rfl, rfl⟩)
  subst he
  obtain ⟨rfl, rfl⟩ := k4.out rfl
  obtain ⟨hpl, hR0⟩ := hz.out rfl
  have hR : Hid _ := ⟨hR0⟩
  clear hR0 hz k3 k4
  repeat' (first 
   | (with_reducible refine Rets.xcall (cp _) ?_)
   | (with_reducible refine Lit.imm ?_)
   | (simp -dsimp -implicitDefEqProofs [-xappend_list, *]))
  clear cp
  refine xloop_for (fun s : Nat × Option (Acc Int) => [(0, intLst t R), (1, Pl.lst u p), (8, accQ s.2), (9, .int s.1)]) (fun s => accS T.int st s.2)
    (fun s => s.1 ≤ p.length ∧ accOk intRow 1 st s.2 ∧ Hid (accL s.2 = (p.take s.1).map fun x => ptOf R x.rank)) (fun s => p.length - s.1) (0, none) ⟨by simp, trivial, ⟨by simp⟩⟩ (by simp [accQ]) (.refl _) ?_
  rintro ⟨i, o⟩ ⟨hi, ho, hl⟩
  simp only at hi ho hl
  by_cases hil : i < p.length
  · have hw := wrap_succ (n := i) (by omega)
    have x1 := Pl.row_get1 p i hil
    have X1 : ∀ h, (Pl.row p)[i * 3 + 1]'h = .int p[i].rank := fun h => Pl.row_getE1 p i h
    have hlen : (accL o).length ≤ 4096 := by rw [hl.out, List.length_map, List.length_take]; omega
    have hl2 : Hid (∀ M, M = accL o ++ [ptOf R p[i].rank] → M = (p.take (i + 1)).map fun x => ptOf R x.rank) := ⟨fun M h => by rw [h, hl.out, List.take_succ_eq_append_getElem hil, List.map_append]; rfl⟩
    obtain ⟨x, hx⟩ : ∃ x, x = p[i] := ⟨_, rfl⟩
    have hr := Pl.ranks hR.out i hil
    have hxr : Pl.at_ p i = x := by rw [hx]; simp [Pl.at_, hil]
    rw [hxr] at hr
    rw [← hx] at x1 X1 hl2
    have hi3 : i * 3 + 1 < p.length * 3 := by omega
    clear hl hx hxr
    have hrk : Hid (1 ≤ x.rank ∧ x.rank ≤ i + 1) := ⟨hr⟩
    clear hr
    by_cases hin : x.rank ≤ R.length
    · obtain ⟨j, hj⟩ : ∃ j : Nat, x.rank = j + 1 := ⟨(x.rank - 1).toNat, by have := hrk.out; omega⟩
      have hjl : j < R.length := by omega
      have hv := ptOf_in hj hjl
      have g1 := intRow_get R j hjl
      have wj : IntKind.i64.wrap (x.rank - 1) = (j : Int) := by rw [wrap_in (by omega) (by omega)]; omega
      obtain ⟨v, hv2⟩ : ∃ v, v = R[j] := ⟨_, rfl⟩
      have g2 : ∀ h, R[j]'h = v := fun _ => hv2.symm
      rw [← hv2] at hv g1
      rw [hv] at hl2
      clear hv hv2 hj
      repeat' (first 
       | (with_reducible refine Lit.imm ?_)
       | (simp -dsimp -implicitDefEqProofs [-xappend_list, *]))
      refine xappend_accQ intRow_len intRow_append o ho [v] (by simp [intRow]) rfl (by omega) fun o2 ho2 hl3 => ?_
      have hl4 : Hid _ := ⟨hl2.out _ hl3⟩
      clear hl3 hl2 ho hlen
      repeat' (simp -dsimp -implicitDefEqProofs [-xappend_list, *])
      exact Next.intro (i + 1, o2) ⟨by simp only; omega, ho2, hl4⟩ (by simp only; omega) (by simp) (by repeat' (first | exact StLe.refl _ | (refine StLe_cons (by simp [*]; done) ?_) | (refine StLe_fresh (by simp [*]; done) ?_)))
    · have hv : ptOf R x.rank = 0 := ptOf_late (by omega)
      rw [hv] at hl2
      clear hv
      repeat' (first 
       | (with_reducible refine Lit.imm ?_)
       | (simp -dsimp -implicitDefEqProofs [-xappend_list, *]))
      refine xappend_accQ intRow_len intRow_append o ho [0] (by simp [intRow]) rfl (by omega) fun o2 ho2 hl3 => ?_
      have hl4 : Hid _ := ⟨hl2.out _ hl3⟩
      clear hl3 hl2 ho hlen
      repeat' (simp -dsimp -implicitDefEqProofs [-xappend_list, *])
      exact Next.intro (i + 1, o2) ⟨by simp only; omega, ho2, hl4⟩ (by simp only; omega) (by simp) (by repeat' (first | exact StLe.refl _ | (refine StLe_cons (by simp [*]; done) ?_) | (refine StLe_fresh (by simp [*]; done) ?_)))
  · obtain rfl : i = p.length := by omega
    clear hil
    repeat' (simp -dsimp -implicitDefEqProofs [-xappend_list, *])
    refine RetView.accQ2 rfl ho (.same ⟨by rw [hl.out, List.take_length], rfl⟩)
end Go.Proofs.Ytgjgcflgjpigpaa
