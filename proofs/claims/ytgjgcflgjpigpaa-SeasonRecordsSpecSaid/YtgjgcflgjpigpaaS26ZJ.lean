/- Points of the lines of a standing. -/
import Derived.Test.YtgjgcflgjpigpaaS26ZF
import Derived.Test.YtgjgcflgjpigpaaS26ZI
import Derived.Test.YtgjgcflgjpigpaaLLx
import Derived.Test.YtgjgcflgjpigpaaS26RH
namespace Go.Proofs.Ytgjgcflgjpigpaa
open Go.Pv
set_option maxRecDepth 100000
set_option maxHeartbeats 8000000
structure PtsK (Q : List Int) (p : List Pl) (E : Int) (M : List Int) : Prop where
  k1 : 64 < Q.length → E = 2 ∧ M = []
  k2 : Q.length ≤ 64 → (Q.all amt = false ∨ fallB Q = false) → E = 260 ∧ M = []
  k3 : Q.length ≤ 64 → Q.all amt = true → fallB Q = true → plE p ≠ 0 → E = plE p ∧ M = []
  k4 : Q.length ≤ 64 → Q.all amt = true → fallB Q = true → plE p = 0 → E = 0 ∧ M = p.map fun x => ptOf Q x.rank
noncomputable def ptsE (Q : List Int) (p : List Pl) : Int := if 64 < Q.length then 2 else if Q.all amt && fallB Q then plE p else 260
noncomputable def ptsL (Q : List Int) (p : List Pl) : List Int := if ptsE Q p = 0 then p.map fun x => ptOf Q x.rank else []
theorem pts_k (Q : List Int) (p : List Pl) : PtsK Q p (ptsE Q p) (ptsL Q p) := by
  have nz : ptsE Q p ≠ 0 → ptsL Q p = [] := fun h => by unfold ptsL; rw [if_neg h]
  refine ⟨fun h => ?_, fun h h2 => ?_, fun h h2 h3 h4 => ?_, fun h h2 h3 h4 => ?_⟩
  · have e : ptsE Q p = 2 := by unfold ptsE; rw [if_pos h]
    exact ⟨e, nz (by omega)⟩
  · have e : ptsE Q p = 260 := by
      unfold ptsE
      rw [if_neg (by omega), if_neg]
      rcases h2 with h2 | h2 <;> simp [h2]
    exact ⟨e, nz (by omega)⟩
  · have e : ptsE Q p = plE p := by unfold ptsE; rw [if_neg (by omega), h2, h3]; rfl
    exact ⟨e, nz (by rw [e]; exact h4)⟩
  · have e : ptsE Q p = 0 := by unfold ptsE; rw [if_neg (by omega), h2, h3]; exact h4
    exact ⟨e, by unfold ptsL; rw [if_pos e]⟩
theorem ptOf_in {Q : List Int} {r : Int} {i : Nat} (h : r = i + 1) (hi : i < Q.length) : ptOf Q r = Q[i] := by
  unfold ptOf
  rw [if_pos (by omega), show (r - 1).toNat = i by omega]
  simp [hi]
theorem points_spec (t u : Bool) (Q : List Int) (hT : Q.length ≤ 9223372036854775807) (p : List Pl) (hp : p.length ≤ 9223372036854775807) (st : Store) : Rets P F.season_Points [intLst t Q, Pl.lst u p] st (.tuple [intLst false (ptsL Q p), .int (ptsE Q p)]) := by
  have k := pts_k Q p
  obtain ⟨E, hE⟩ : ∃ E, E = ptsE Q p := ⟨_, rfl⟩
  obtain ⟨M, hM⟩ : ∃ M, M = ptsL Q p := ⟨_, rfl⟩
  rw [← hE, ← hM] at k ⊢
  clear hE hM
  refine H.season_Points.view hmix rfl rfl ?_
  by_cases n1 : 64 < Q.length
  · obtain ⟨rfl, rfl⟩ := k.k1 n1
    have n1' : (64 : Int) < Q.length := by omega
    clear k
    repeat' (simp -dsimp -implicitDefEqProofs [*])
    exact .sees (.tuple2l (.nil0 _)) (RetView.drop (st' := st) (by repeat' (first | exact StLe.refl _ | (refine StLe_cons (by simp [*]; done) ?_) | (refine StLe_fresh (by simp [*]; done) ?_))) ⟨rfl, rfl⟩)
  have n1' : ¬ (64 : Int) < Q.length := by omega
  have hlt : Q.length ≤ 64 := by omega
  have ca := amounts_spec t Q hT
  have cs := sorted_spec t Q (by omega)
  have cp := plCheck_spec u p hp (plE_k p)
  have kk : Hid _ := ⟨k⟩
  have hz : Hid (plE p = 0 → p.length ≤ 4096 ∧ Pl.Right p) := ⟨fun h => plE_zero h⟩
  have ham : Hid (Q.all amt = true → ∀ x ∈ Q, amt x = true) := ⟨fun h => List.all_eq_true.1 h⟩
  clear k n1
  obtain ⟨va, ya⟩ : ∃ v, v = Q.all amt := ⟨_, rfl⟩
  obtain ⟨vs, ys⟩ : ∃ v, v = fallB Q := ⟨_, rfl⟩
  obtain ⟨e, ye⟩ : ∃ v, v = plE p := ⟨_, rfl⟩
  rw [← ya] at ca ham
  rw [← ys] at cs
  rw [← ye] at cp hz
  have qa : Hid _ := ⟨ya⟩
  have qs : Hid _ := ⟨ys⟩
  have qe : Hid _ := ⟨ye⟩
  clear ya ys ye
  cases va with
  | false =>
    obtain ⟨rfl, rfl⟩ := kk.out.k2 hlt (.inl qa.out.symm)
    clear kk hz ham qa qs qe
    cases vs
    all_goals
      repeat' (first 
       | (with_reducible refine Rets.xcall (ca _) ?_)
       | (with_reducible refine Rets.xcall (cs _) ?_)
       | (simp -dsimp -implicitDefEqProofs [*]))
      exact .sees (.tuple2l (.nil0 _)) (RetView.drop (st' := st) (by repeat' (first | exact StLe.refl _ | (refine StLe_cons (by simp [*]; done) ?_) | (refine StLe_fresh (by simp [*]; done) ?_))) ⟨rfl, rfl⟩)
  | true =>
  cases vs with
  | false =>
    obtain ⟨rfl, rfl⟩ := kk.out.k2 hlt (.inr qs.out.symm)
    clear kk hz ham qa qs qe
    repeat' (first 
     | (with_reducible refine Rets.xcall (ca _) ?_)
     | (with_reducible refine Rets.xcall (cs _) ?_)
     | (simp -dsimp -implicitDefEqProofs [*]))
    exact .sees (.tuple2l (.nil0 _)) (RetView.drop (st' := st) (by repeat' (first | exact StLe.refl _ | (refine StLe_cons (by simp [*]; done) ?_) | (refine StLe_fresh (by simp [*]; done) ?_))) ⟨rfl, rfl⟩)
  | true =>
  by_cases he : e = 0
  case neg =>
    obtain ⟨rfl, rfl⟩ := kk.out.k3 hlt qa.out.symm qs.out.symm (by rw [← qe.out]; exact he)
    rw [← qe.out]
    clear kk hz ham qa qs qe
    repeat' (first 
     | (with_reducible refine Rets.xcall (ca _) ?_)
     | (with_reducible refine Rets.xcall (cs _) ?_)
     | (with_reducible refine Rets.xcall (cp _) ?_)
     | (simp -dsimp -implicitDefEqProofs [*]))
    exact .sees (.tuple2l (.nil0 _)) (RetView.drop (st' := st) (by repeat' (first | exact StLe.refl _ | (refine StLe_cons (by simp [*]; done) ?_) | (refine StLe_fresh (by simp [*]; done) ?_))) ⟨rfl, rfl⟩)
  subst he
  obtain ⟨rfl, rfl⟩ := kk.out.k4 hlt qa.out.symm qs.out.symm qe.out.symm
  obtain ⟨hpl, hR0⟩ := hz.out rfl
  have hR : Hid _ := ⟨hR0⟩
  clear hR0
  clear kk hz ham qa qs qe
  repeat' (first 
   | (with_reducible refine Rets.xcall (ca _) ?_)
   | (with_reducible refine Rets.xcall (cs _) ?_)
   | (with_reducible refine Rets.xcall (cp _) ?_)
   | (simp -dsimp -implicitDefEqProofs [-xappend_list, *]))
  clear ca cs cp
  refine xloop_for (fun s : Nat × Option (Acc Int) => [(0, intLst t Q), (4, accP s.2), (28, Pl.lst u p), (29, .int p.length), (30, .int s.1)]) (fun s => accS T.int st s.2)
    (fun s => s.1 ≤ p.length ∧ accOk intRow 1 st s.2 ∧ Hid (accL s.2 = (p.take s.1).map fun x => ptOf Q x.rank)) (fun s => p.length - s.1) (0, none) ⟨by simp, trivial, ⟨by simp⟩⟩ (by simp) (.refl _) ?_
  rintro ⟨i, o⟩ ⟨hi, ho, hl⟩
  simp only at hi ho hl
  by_cases hil : i < p.length
  · have hw := wrap_succ (n := i) (by omega)
    have s0 := Pl.row_sub p i hil
    have hlen : (accL o).length ≤ 4096 := by rw [hl.out, List.length_map, List.length_take]; omega
    have hl2 : Hid (∀ M, M = accL o ++ [ptOf Q p[i].rank] → M = (p.take (i + 1)).map fun x => ptOf Q x.rank) := ⟨fun M h => by rw [h, hl.out, List.take_succ_eq_append_getElem hil, List.map_append]; rfl⟩
    obtain ⟨x, hx⟩ : ∃ x, x = p[i] := ⟨_, rfl⟩
    have hr := Pl.ranks hR.out i hil
    have hxr : Pl.at_ p i = x := by rw [hx]; simp [Pl.at_, hil]
    rw [hxr] at hr
    rw [← hx] at s0 hl2
    clear hl hx hxr
    have hrk : Hid (1 ≤ x.rank ∧ x.rank ≤ i + 1) := ⟨hr⟩
    clear hr
    by_cases hin : x.rank ≤ Q.length
    · obtain ⟨j, hj⟩ : ∃ j : Nat, x.rank = j + 1 := ⟨(x.rank - 1).toNat, by have := hrk.out; omega⟩
      have hjl : j < Q.length := by omega
      have hv := ptOf_in hj hjl
      have g1 := intRow_get Q j hjl
      have wj : IntKind.i64.wrap (x.rank - 1) = (j : Int) := by rw [wrap_in (by omega) (by omega)]; omega
      obtain ⟨v, hv2⟩ : ∃ v, v = Q[j] := ⟨_, rfl⟩
      have g2 : ∀ h, Q[j]'h = v := fun _ => hv2.symm
      rw [← hv2] at hv g1
      rw [hv] at hl2
      clear hv hv2 hj
      repeat' (first 
       | (with_reducible refine Fresh.intro fun b hb => ?_) <;> (try simp -dsimp -implicitDefEqProofs [*] at hb)
       | (with_reducible refine Lit.imm ?_)
       | (simp -dsimp -implicitDefEqProofs [-xappend_list, *]))
      revert b; intro b hb
      obtain ⟨hnb, hns⟩ := accB_new hb
      refine xappend_box intRow_len intRow_append o ho hb [v] (by simp [intRow]) rfl (by omega) (by omega) fun o2 ho2 hl3 => ?_
      have hl4 : Hid _ := ⟨hl2.out _ hl3⟩
      clear hl3 hl2 ho hlen
      repeat' (simp -dsimp -implicitDefEqProofs [-xappend_list, *])
      exact Next.intro (i + 1, o2) ⟨by simp only; omega, accOk.unbox ho2, hl4⟩ (by simp only; omega) (by simp) (StLe.box o2 hns)
    · have hv : ptOf Q x.rank = 0 := ptOf_late (by omega)
      rw [hv] at hl2
      clear hv
      repeat' (first 
       | (with_reducible refine Fresh.intro fun b hb => ?_) <;> (try simp -dsimp -implicitDefEqProofs [*] at hb)
       | (with_reducible refine Lit.imm ?_)
       | (simp -dsimp -implicitDefEqProofs [-xappend_list, *]))
      revert b; intro b hb
      obtain ⟨hnb, hns⟩ := accB_new hb
      refine xappend_box intRow_len intRow_append o ho hb [0] (by simp [intRow]) rfl (by omega) (by omega) fun o2 ho2 hl3 => ?_
      have hl4 : Hid _ := ⟨hl2.out _ hl3⟩
      clear hl3 hl2 ho hlen
      repeat' (simp -dsimp -implicitDefEqProofs [-xappend_list, *])
      exact Next.intro (i + 1, o2) ⟨by simp only; omega, accOk.unbox ho2, hl4⟩ (by simp only; omega) (by simp) (StLe.box o2 hns)
  · obtain rfl : i = p.length := by omega
    clear hil
    repeat' (simp -dsimp -implicitDefEqProofs [*])
    refine RetView.accP2 rfl ho (.same ⟨by rw [hl.out, List.take_length], rfl⟩)
end Go.Proofs.Ytgjgcflgjpigpaa
/- The reference: points of the lines of a standing. -/
namespace Go.Proofs.Ytgjgcflgjpigpaa
open Go.Pv
set_option maxRecDepth 100000
set_option maxHeartbeats 8000000
end Go.Proofs.Ytgjgcflgjpigpaa
