/- The reference: rational numbers; equality, sizes. -/
import Derived.Test.YtgjgcflgjpigpaaS26W
import Derived.Test.YtgjgcflgjpigpaaLRg
namespace Go.Proofs.Ytgjgcflgjpigpaa
open Go.Pv
set_option maxRecDepth 100000
set_option maxHeartbeats 8000000
theorem rMake_spec (n : Int) (h1 : -9223372036854775808 ≤ n) (h2 : n ≤ 9223372036854775807) (st : Store) : Rets P F.podiumref09_Make [.int n] st (.agg (zC false n)) := by
  refine H.podiumref09_Make.view hmix rfl rfl ?_
  repeat' (first 
   | (with_reducible refine Fresh.intro fun b hb => ?_) <;> (try simp -dsimp -implicitDefEqProofs [*] at hb)
   | (with_reducible refine Lit.imm ?_)
   | (simp -dsimp -implicitDefEqProofs [-xappend_list, *]))
  refine xloop_for (fun y : Int × Option (Acc Int) => [(0, .int n), (2, .ptr b 0), (3, accT y.2), (4, .int y.1)]) (fun y => accS T.int ((b, .arr T.apiBig [.bool false, .nil]) :: st) y.2) (fun y => -9223372036854775808 ≤ y.1 ∧ y.1 ≤ 9223372036854775807 ∧ accOk intRow 1 ((b, .arr T.apiBig [.bool false, .nil]) :: st) y.2 ∧ Hid (accL y.2 ++ digs y.1.natAbs = digs n.natAbs)) (fun y => y.1.natAbs) (n, none) ⟨h1, h2, trivial, ⟨rfl⟩⟩ (by simp) (.refl _) ?_
  rintro ⟨k, o⟩ ⟨hk1, hk2, ho, hl⟩
  simp only at hk1 hk2 ho hl
  have e1 : ∀ o, accL (o : Option (Acc Int)) ++ digs 0 = digs n.natAbs → accL o = digs n.natAbs := fun o h => by rwa [digs_zero, List.append_nil] at h
  by_cases hu0 : k = 0
  · subst hu0
    have hl := e1 o hl.out
    clear e1
    cases o with
    | none =>
      simp only [accL_none] at hl
      have hz : zC false n = [.bool (decide (n < 0)), .list false [] 0] := by unfold zC; rw [← hl]; rfl
      rw [hz]
      clear hl hz
      repeat' (simp -dsimp -implicitDefEqProofs [-xappend_list, *])
      exact .le (.agg2 (.refl _) .loose) (.drop (by simp [*]) ⟨rfl, rfl⟩)
    | some a =>
      simp only [accL_some] at hl
      obtain ⟨ha, hab⟩ := ho
      simp only [snew_cons] at hab
      have hz : zC false n = [.bool (decide (n < 0)), .list false (intRow a.l) a.l.length] := by unfold zC; rw [← hl]
      rw [hz]
      clear hl hz
      repeat' (simp -dsimp -implicitDefEqProofs [-xappend_list, *])
      refine .freeze (.agg [.bool _, .list false (intRow a.l) a.l.length]) (by simp [*]) (.agg (.cons (.refl _) (.cons (Frz.acc ha) .nil))) ?_
      exact .drop (by simp [*]) ⟨rfl, rfl⟩
  · obtain ⟨q, hq⟩ : ∃ q, q = k.tdiv 1073741824 := ⟨_, rfl⟩
    obtain ⟨m, hm⟩ : ∃ m, m = k.tmod 1073741824 := ⟨_, rfl⟩
    have hqm : q.natAbs = k.natAbs / 1073741824 ∧ m.natAbs = k.natAbs % 1073741824 ∧ (0 < k → 0 ≤ m) ∧ (k < 0 → m ≤ 0) := by
      rcases Int.lt_or_gt_of_ne hu0 with h | h
      · have e2 : k = -((k.natAbs : Nat) : Int) := by omega
        have e3 : k.tdiv 1073741824 = -((k.natAbs / 1073741824 : Nat) : Int) := by conv => lhs; rw [e2]
                                                                                   rw [Int.neg_tdiv]; rfl
        have e4 : k.tmod 1073741824 = -((k.natAbs % 1073741824 : Nat) : Int) := by conv => lhs; rw [e2]
                                                                                   rw [Int.neg_tmod]; rfl
        rw [hq, hm, e3, e4]
        omega
      · rw [hq, hm, Int.tdiv_eq_ediv_of_nonneg (by omega), Int.tmod_eq_emod_of_nonneg (by omega)]
        omega
    have x1 : IntKind.i64.wrap m = m := wrap_in (by omega) (by omega)
    have x2 : IntKind.i64.wrap q = q := wrap_in (by omega) (by omega)
    have x3 : IntKind.i64.wrap (-m) = -m := wrap_in (by omega) (by omega)
    have hd := digs_pos (n := k.natAbs) (by omega)
    rw [hd, ← hqm.1, ← hqm.2.1] at hl
    have kn : Hid ((accL o).length ≤ 3) := ⟨by
      have h3 : dl n.natAbs ≤ 3 := dl_le.2 (by omega)
      have := congrArg List.length hl.out
      rw [List.length_append] at this
      unfold dl at h3
      omega⟩
    have hqs : q.natAbs < k.natAbs := by omega
    have hqr : -9223372036854775808 ≤ q ∧ q ≤ 9223372036854775807 := by omega
    have t1 : k.tmod 1073741824 = m := hm.symm
    have t2 : k.tdiv 1073741824 = q := hq.symm
    clear e1 hd hqm hm hq
    by_cases hneg : m < 0
    · have em : ((m.natAbs : Nat) : Int) = -m := by omega
      rw [em] at hl
      repeat' (first 
       | (with_reducible refine Lit.imm ?_)
       | (simp -dsimp -implicitDefEqProofs [-xappend_list, *]))
      refine xappend_accT intRow_len intRow_append o ho [-m] (by simp [intRow]) rfl (by omega) (by have := kn.out; omega) fun a ha hab hal => ?_
      have hl2 : Hid (accL (some a) ++ digs q.natAbs = digs n.natAbs) := ⟨by
        rw [accL_some, hal, List.append_assoc]; exact hl.out⟩
      clear hl hal ho
      repeat' (simp -dsimp -implicitDefEqProofs [-xappend_list, *])
      exact Next.intro (q, some a) ⟨hqr.1, hqr.2, ⟨ha, hab⟩, hl2⟩ hqs (by simp) (by repeat' (first | exact StLe.refl _ | (refine StLe_cons (by simp [*]; done) ?_) | (refine StLe_fresh (by simp [*]; done) ?_)))
    · have em : ((m.natAbs : Nat) : Int) = m := by omega
      rw [em] at hl
      repeat' (first 
       | (with_reducible refine Lit.imm ?_)
       | (simp -dsimp -implicitDefEqProofs [-xappend_list, *]))
      refine xappend_accT intRow_len intRow_append o ho [m] (by simp [intRow]) rfl (by omega) (by have := kn.out; omega) fun a ha hab hal => ?_
      have hl2 : Hid (accL (some a) ++ digs q.natAbs = digs n.natAbs) := ⟨by
        rw [accL_some, hal, List.append_assoc]; exact hl.out⟩
      clear hl hal ho
      repeat' (simp -dsimp -implicitDefEqProofs [-xappend_list, *])
      exact Next.intro (q, some a) ⟨hqr.1, hqr.2, ⟨ha, hab⟩, hl2⟩ hqs (by simp) (by repeat' (first | exact StLe.refl _ | (refine StLe_cons (by simp [*]; done) ?_) | (refine StLe_fresh (by simp [*]; done) ?_)))
theorem zero_spec (s t : Bool) (L : List Int) (st : Store) : Rets P F.podiumref10_zero [.agg [.bool s, intLst t L]] st (.bool (decide ((L.length : Int) = 0))) := by
  refine H.podiumref10_zero.pure hmix rfl rfl ?_
  repeat' (first 
   | (with_reducible refine Fresh.intro fun b hb => ?_) <;> (try simp -dsimp -implicitDefEqProofs [*] at hb)
   | (simp -dsimp -implicitDefEqProofs [*]))
theorem sameBig_spec (s1 t1 s2 t2 : Bool) (A B : List Int) (hA : A.length ≤ 100000) (st : Store) : Rets P F.podiumref10_SameBig [.agg [.bool s1, intLst t1 A], .agg [.bool s2, intLst t2 B]] st (.bool (decide (s1 = s2) && decide (A = B))) := by
  by_cases hs : s1 = s2
  · subst hs
    by_cases hl : A.length = B.length
    · have kE : Hid (∀ i (h1 : i < A.length) (h2 : i < B.length), A[i] ≠ B[i] → A ≠ B) := ⟨fun i h1 h2 h e => h (by subst e; rfl)⟩
      obtain ⟨r, hr⟩ : ∃ r, r = (decide (s1 = s1) && decide (A = B)) := ⟨_, rfl⟩
      have kr : Hid (r = decide (A = B)) := ⟨by rw [hr]; simp⟩
      rw [← hr]
      clear hr
      refine H.podiumref10_SameBig.view hmix rfl rfl ?_
      repeat' (first 
       | (with_reducible refine Fresh.intro fun b hb => ?_) <;> (try simp -dsimp -implicitDefEqProofs [*] at hb)
       | (simp -dsimp -implicitDefEqProofs [*]))
      revert b
      revert b
      intro p2 h2 p3 h3
      refine xloop_for (fun i : Nat => [(2, .ptr p2 0), (3, .ptr p3 0), (5, .int i)]) (fun _ => (p3, .arr T.apiBig [.bool s1, intLst t2 B]) :: (p2, .arr T.apiBig [.bool s1, intLst t1 A]) :: st) (fun i => i ≤ B.length ∧ Hid (∀ j (h1 : j < A.length) (h2 : j < B.length), j < i → A[j] = B[j])) (fun i => B.length - i) 0 ⟨Nat.zero_le _, ⟨fun j _ _ h => absurd h (by omega)⟩⟩ (by simp) (by simp) ?_
      rintro i ⟨hi, hE⟩
      by_cases hil : i < B.length
      · have hia : i < A.length := by omega
        have x5 := wrap_succ (n := i) (by omega)
        by_cases he : A[i] = B[i]
        · have hE2 : Hid (∀ j (h1 : j < A.length) (h2 : j < B.length), j < i + 1 → A[j] = B[j]) := ⟨fun j h1 h2 hji => by
            by_cases e : j = i
            · subst e; exact he
            · exact hE.out j h1 h2 (by omega)⟩
          clear hE
          repeat' (simp -dsimp -implicitDefEqProofs [*])
          exact Next.intro (i + 1) ⟨by omega, hE2⟩ (by omega) (by simp) (.refl _)
        · have hF : Hid (r = false) := ⟨by rw [kr.out, decide_eq_false (kE.out i hia hil he)]⟩
          clear hE
          repeat' (simp -dsimp -implicitDefEqProofs [*])
          exact RetView.drop (st' := st) (by repeat' (first | exact StLe.refl _ | (refine StLe_cons (by simp [*]; done) ?_) | (refine StLe_fresh (by simp [*]; done) ?_))) ⟨by rw [hF.out], rfl⟩
      · have hT : Hid (r = true) := ⟨by
          rw [kr.out, decide_eq_true]
          exact List.ext_getElem hl fun j h1 h2 => hE.out j h1 h2 (by omega)⟩
        clear hE
        repeat' (simp -dsimp -implicitDefEqProofs [*])
        exact RetView.drop (st' := st) (by repeat' (first | exact StLe.refl _ | (refine StLe_cons (by simp [*]; done) ?_) | (refine StLe_fresh (by simp [*]; done) ?_))) ⟨by rw [hT.out], rfl⟩
    · have hne : ¬ A = B := fun e => hl (by rw [e])
      have hl2 : ¬ ((A.length : Int) = B.length) := by omega
      rw [decide_eq_false hne, Bool.and_false]
      refine H.podiumref10_SameBig.view hmix rfl rfl ?_
      repeat' (first 
       | (with_reducible refine Fresh.intro fun b hb => ?_) <;> (try simp -dsimp -implicitDefEqProofs [*] at hb)
       | (simp -dsimp -implicitDefEqProofs [*]))
      exact RetView.drop (st' := st) (by repeat' (first | exact StLe.refl _ | (refine StLe_cons (by simp [*]; done) ?_) | (refine StLe_fresh (by simp [*]; done) ?_))) ⟨rfl, rfl⟩
  · rw [decide_eq_false hs, Bool.false_and]
    refine H.podiumref10_SameBig.view hmix rfl rfl ?_
    cases s1 <;> cases s2
    · exact absurd rfl hs
    · repeat' (first 
       | (with_reducible refine Fresh.intro fun b hb => ?_) <;> (try simp -dsimp -implicitDefEqProofs [*] at hb)
       | (simp -dsimp -implicitDefEqProofs [*]))
      exact RetView.drop (st' := st) (by repeat' (first | exact StLe.refl _ | (refine StLe_cons (by simp [*]; done) ?_) | (refine StLe_fresh (by simp [*]; done) ?_))) ⟨rfl, rfl⟩
    · repeat' (first 
       | (with_reducible refine Fresh.intro fun b hb => ?_) <;> (try simp -dsimp -implicitDefEqProofs [*] at hb)
       | (simp -dsimp -implicitDefEqProofs [*]))
      exact RetView.drop (st' := st) (by repeat' (first | exact StLe.refl _ | (refine StLe_cons (by simp [*]; done) ?_) | (refine StLe_fresh (by simp [*]; done) ?_))) ⟨rfl, rfl⟩
    · exact absurd rfl hs
end Go.Proofs.Ytgjgcflgjpigpaa
/- Equality and sizes of recounts. -/
namespace Go.Proofs.Ytgjgcflgjpigpaa
open Go.Pv
set_option maxRecDepth 100000
set_option maxHeartbeats 8000000
theorem same10_spec (s1 t1 s2 t2 s3 t3 s4 t4 : Bool) (A B C D : List Int) (hA : A.length ≤ 100000) (hB : B.length ≤ 100000) (st : Store) : Rets P F.podiumref10_Same [.agg [.bool s1, intLst t1 A, .bool s2, intLst t2 B], .agg [.bool s3, intLst t3 C, .bool s4, intLst t4 D]] st (.bool ((decide (s1 = s3) && decide (A = C)) && (decide (s2 = s4) && decide (B = D)))) := by
  have c1 := sameBig_spec s1 t1 s3 t3 A C hA
  have c2 := sameBig_spec s2 t2 s4 t4 B D hB
  obtain ⟨r1, h1⟩ : ∃ r, r = (decide (s1 = s3) && decide (A = C)) := ⟨_, rfl⟩
  obtain ⟨r2, h2⟩ : ∃ r, r = (decide (s2 = s4) && decide (B = D)) := ⟨_, rfl⟩
  rw [← h1] at c1 ⊢
  rw [← h2] at c2 ⊢
  clear h1 h2
  refine H.podiumref10_Same.view hmix rfl rfl ?_
  cases r1 with
  | false =>
    repeat' (first 
     | (with_reducible refine Fresh.intro fun b hb => ?_) <;> (try simp -dsimp -implicitDefEqProofs [*] at hb)
     | (with_reducible refine Rets.xcall (c1 _) ?_)
     | (simp -dsimp -implicitDefEqProofs [*]))
    exact RetView.drop (st' := st) (by repeat' (first | exact StLe.refl _ | (refine StLe_cons (by simp [*]; done) ?_) | (refine StLe_fresh (by simp [*]; done) ?_))) ⟨rfl, rfl⟩
  | true =>
    repeat' (first 
     | (with_reducible refine Fresh.intro fun b hb => ?_) <;> (try simp -dsimp -implicitDefEqProofs [*] at hb)
     | (with_reducible refine Rets.xcall (c1 _) ?_)
     | (with_reducible refine Rets.xcall (c2 _) ?_)
     | (simp -dsimp -implicitDefEqProofs [*]))
    exact RetView.drop (st' := st) (by repeat' (first | exact StLe.refl _ | (refine StLe_cons (by simp [*]; done) ?_) | (refine StLe_fresh (by simp [*]; done) ?_))) ⟨by simp, rfl⟩
def fewB (L : List Int) (n : Int) : Bool := decide ((L.length : Int) ≤ n) || (decide (2048 < L.length) && decide (L.length ≤ 2052))
/-- A recount. -/
structure Rc where
  n : Int
  w : Int
  s1 : Bool
  L1 : List Int
  s2 : Bool
  L2 : List Int
  a : Int
  s : Int
  deriving DecidableEq
def Rc.enc (r : Rc) (t1 t2 : Bool) : List PV := [.int r.n, .int r.w, .bool r.s1, intLst t1 r.L1, .bool r.s2, intLst t2 r.L2, .int r.a, .int r.s]
def Rc.zero : Rc := ⟨0, 0, false, [], false, [], 0, 0⟩
def Rc.Len (r : Rc) : Prop := r.L1.length ≤ 100000 ∧ r.L2.length ≤ 100000
end Go.Proofs.Ytgjgcflgjpigpaa
