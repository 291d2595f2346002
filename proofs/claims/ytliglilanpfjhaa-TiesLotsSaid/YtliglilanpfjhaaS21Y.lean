/- The reference: rational numbers; equality, sizes. -/
import Derived.Test.YtliglilanpfjhaaS21W
import Derived.Test.YtliglilanpfjhaaLRg
namespace Go.Proofs.Ytliglilanpfjhaa
open Go.Pv
set_option maxRecDepth 100000
set_option maxHeartbeats 8000000
theorem rMake_spec (n : Int) (h1 : -9223372036854775808 ≤ n) (h2 : n ≤ 9223372036854775807) (st : Store) : Rets P F.podiumref09_Make [.int n] st (.agg (zC false n)) := by
  refine H.podiumref09_Make.view hmix rfl rfl ?_
  repeat' (first 
   | (with_reducible refine Fresh.intro fun b hb => ?_) <;> (try simp -dsimp -implicitDefEqProofs [*] at hb)
   | (with_reducible refine Lit.imm ?_)
   | (simp -dsimp -implicitDefEqProofs [-xappend_list, *]))
  refine xloop_for (fun y : Int × Option (Acc Int) => [(0, .int n), (2, .ptr b 0), (3, accT y.2), (4, .int y.1)]) (fun y => accS T.int ((b, .arr T.apiBig [.bool false, .nil]) :: st) y.2) (fun y => -9223372036854775808 ≤ y.1 ∧ y.1 ≤ 9223372036854775807 ∧ accOk intRow 1 ((b, .arr T.apiBig [.bool false, .nil]) :: st) y.2 ∧ Hid (accL y.2 ++ digs y.1.natAbs = digs n.natAbs)) (fun y => y.1.natAbs) (n, none) ⟨h1, h2, trivial, ⟨rfl⟩⟩ (by simp) (.refl _) ?_
  rintro ⟨k, o⟩ ⟨hk1, hk2, ho, hl⟩
  simp only at hk1 hk2 ho hl
  have e1 : ∀ o, accL (o : Option (Acc Int)) ++ digs 0 = digs n.natAbs → accL o = digs n.natAbs := fun o h => by rwa [digs_zero, List.append_nil] at h
  by_cases hu0 : k = 0
  · subst hu0
    have hl := e1 o hl.out
    clear e1
    cases o with
    | none =>
      simp only [accL_none] at hl
      have hz : zC false n = [.bool (decide (n < 0)), .list false [] 0] := by unfold zC; rw [← hl]; rfl
      rw [hz]
      clear hl hz
      repeat' (simp -dsimp -implicitDefEqProofs [-xappend_list, *])
      exact .le (.agg2 (.refl _) .loose) (.drop (by simp [*]) ⟨rfl, rfl⟩)
    | some a =>
      simp only [accL_some] at hl
      obtain ⟨ha, hab⟩ := ho
      simp only [snew_cons] at hab
      have hz : zC false n = [.bool (decide (n < 0)), .list false (intRow a.l) a.l.length] := by unfold zC; rw [← hl]
      rw [hz]
      clear hl hz
      repeat' (simp -dsimp -implicitDefEqProofs [-xappend_list, *])
      refine .freeze (.agg [.bool _, .list false (intRow a.l) a.l.length]) (by simp [*]) (.agg (.cons (.refl _) (.cons (Frz.acc ha) .nil))) ?_
      exact .drop (by simp [*]) ⟨rfl, rfl⟩
  · obtain ⟨q, hq⟩ : ∃ q, q = k.tdiv 1073741824 := ⟨_, rfl⟩
    obtain ⟨m, hm⟩ : ∃ m, m = k.tmod 1073741824 := ⟨_, rfl⟩
    have hqm : q.natAbs = k.natAbs / 1073741824 ∧ m.natAbs = k.natAbs % 1073741824 ∧ (0 < k → 0 ≤ m) ∧ (k < 0 → m ≤ 0) := by
      rcases Int.lt_or_gt_of_ne hu0 with h | h
      · have e2 : k = -((k.natAbs : Nat) : Int) := by omega
        have e3 : k.tdiv 1073741824 = -((k.natAbs / 1073741824 : Nat) : Int) := by conv => lhs; rw [e2]
                                                                                   rw [Int.neg_tdiv]; rfl
        have e4 : k.tmod 1073741824 = -((k.natAbs % 1073741824 : Nat) : Int) := by conv => lhs; rw [e2]
                                                                                   rw [Int.neg_tmod]; rfl
        rw [hq, hm, e3, e4]
        omega
      · rw [hq, hm, Int.tdiv_eq_ediv_of_nonneg (by omega), Int.tmod_eq_emod_of_nonneg (by omega)]
        omega
    have x1 : IntKind.i64.wrap m = m := wrap_in (by omega) (by omega)
    have x2 : IntKind.i64.wrap q = q := wrap_in (by omega) (by omega)
    have x3 : IntKind.i64.wrap (-m) = -m := wrap_in (by omega) (by omega)
    have hd := digs_pos (n := k.natAbs) (by omega)
    rw [hd, ← hqm.1, ← hqm.2.1] at hl
    have kn : Hid ((accL o).length ≤ 3) := ⟨by
      have h3 : dl n.natAbs ≤ 3 := dl_le.2 (by omega)
      have := congrArg List.length hl.out
      rw [List.length_append] at this
      unfold dl at h3
      omega⟩
    have hqs : q.natAbs < k.natAbs := by omega
    have hqr : -9223372036854775808 ≤ q ∧ q ≤ 9223372036854775807 := by omega
    have t1 : k.tmod 1073741824 = m := hm.symm
    have t2 : k.tdiv 1073741824 = q := hq.symm
    clear e1 hd hqm hm hq
    by_cases hneg : m < 0
    · have em : ((m.natAbs : Nat) : Int) = -m := by omega
      rw [em] at hl
      repeat' (first 
       | (with_reducible refine Lit.imm ?_)
       | (simp -dsimp -implicitDefEqProofs [-xappend_list, *]))
      refine xappend_accT intRow_len intRow_append o ho [-m] (by simp [intRow]) rfl (by omega) (by have := kn.out; omega) fun a ha hab hal => ?_
      have hl2 : Hid (accL (some a) ++ digs q.natAbs = digs n.natAbs) := ⟨by
        rw [accL_some, hal, List.append_assoc]; exact hl.out⟩
      clear hl hal ho
      repeat' (simp -dsimp -implicitDefEqProofs [-xappend_list, *])
      exact Next.intro (q, some a) ⟨hqr.1, hqr.2, ⟨ha, hab⟩, hl2⟩ hqs (by simp) (by repeat' (first | exact StLe.refl _ | (refine StLe_cons (by simp [*]; done) ?_) | (refine StLe_fresh (by simp [*]; done) ?_)))
    · have em : ((m.natAbs : Nat) : Int) = m := by omega
      rw [em] at hl
      repeat' (first 
       | (with_reducible refine Lit.imm ?_)
       | (simp -dsimp -implicitDefEqProofs [-xappend_list, *]))
      refine xappend_accT intRow_len intRow_append o ho [m] (by simp [intRow]) rfl (by omega) (by have := kn.out; omega) fun a ha hab hal => ?_
      have hl2 : Hid (accL (some a) ++ digs q.natAbs = digs n.natAbs) := ⟨by
        rw [accL_some, hal, List.append_assoc]; exact hl.out⟩
      clear hl hal ho
      repeat' (simp -dsimp -implicitDefEqProofs [-xappend_list, *])
      exact Next.intro (q, some a) ⟨hqr.1, hqr.2, ⟨ha, hab⟩, hl2⟩ hqs (by simp) (by repeat' (first | exact StLe.refl _ | (refine StLe_cons (by simp [*]; done) ?_) | (refine StLe_fresh (by simp [*]; done) ?_)))
theorem zero_spec (s t : Bool) (L : List Int) (st : Store) : Rets P F.podiumref10_zero [.agg [.bool s, intLst t L]] st (.bool (decide ((L.length : Int) = 0))) := by
  refine H.podiumref10_zero.pure hmix rfl rfl ?_
  repeat' (first 
   | (with_reducible refine Fresh.intro fun b hb => ?_) <;> (try simp -dsimp -implicitDefEqProofs [*] at hb)
   | (simp -dsimp -implicitDefEqProofs [*]))
end Go.Proofs.Ytliglilanpfjhaa
/- Equality and sizes of recounts. -/
namespace Go.Proofs.Ytliglilanpfjhaa
open Go.Pv
set_option maxRecDepth 100000
set_option maxHeartbeats 8000000
def fewB (L : List Int) (n : Int) : Bool := decide ((L.length : Int) ≤ n) || (decide (2048 < L.length) && decide (L.length ≤ 2052))
theorem fewBig_spec (s t : Bool) (L : List Int) (n : Int) (st : Store) : Rets P F.podiumref10_FewBig [.agg [.bool s, intLst t L], .int n] st (.bool (fewB L n)) := by
  refine H.podiumref10_FewBig.view hmix rfl rfl ?_
  by_cases h1 : (L.length : Int) ≤ n
  · have e : fewB L n = true := by simp [fewB, h1]
    rw [e]
    repeat' (first 
     | (with_reducible refine Fresh.intro fun b hb => ?_) <;> (try simp -dsimp -implicitDefEqProofs [*] at hb)
     | (simp -dsimp -implicitDefEqProofs [*]))
    exact RetView.drop (st' := st) (by repeat' (first | exact StLe.refl _ | (refine StLe_cons (by simp [*]; done) ?_) | (refine StLe_fresh (by simp [*]; done) ?_))) ⟨rfl, rfl⟩
  · by_cases h2 : 2048 < L.length
    · have h2' : (2048 : Int) < L.length := by omega
      by_cases h3 : L.length ≤ 2052
      · have h3' : (L.length : Int) ≤ 2052 := by omega
        have e : fewB L n = true := by simp [fewB, h2, h3]
        rw [e]
        repeat' (first 
         | (with_reducible refine Fresh.intro fun b hb => ?_) <;> (try simp -dsimp -implicitDefEqProofs [*] at hb)
         | (simp -dsimp -implicitDefEqProofs [*]))
        exact RetView.drop (st' := st) (by repeat' (first | exact StLe.refl _ | (refine StLe_cons (by simp [*]; done) ?_) | (refine StLe_fresh (by simp [*]; done) ?_))) ⟨rfl, rfl⟩
      · have h3' : ¬ (L.length : Int) ≤ 2052 := by omega
        have e : fewB L n = false := by simp [fewB, h1, h3]
        rw [e]
        repeat' (first 
         | (with_reducible refine Fresh.intro fun b hb => ?_) <;> (try simp -dsimp -implicitDefEqProofs [*] at hb)
         | (simp -dsimp -implicitDefEqProofs [*]))
        exact RetView.drop (st' := st) (by repeat' (first | exact StLe.refl _ | (refine StLe_cons (by simp [*]; done) ?_) | (refine StLe_fresh (by simp [*]; done) ?_))) ⟨rfl, rfl⟩
    · have h2' : ¬ (2048 : Int) < L.length := by omega
      have e : fewB L n = false := by simp [fewB, h1, h2]
      rw [e]
      repeat' (first 
       | (with_reducible refine Fresh.intro fun b hb => ?_) <;> (try simp -dsimp -implicitDefEqProofs [*] at hb)
       | (simp -dsimp -implicitDefEqProofs [*]))
      exact RetView.drop (st' := st) (by repeat' (first | exact StLe.refl _ | (refine StLe_cons (by simp [*]; done) ?_) | (refine StLe_fresh (by simp [*]; done) ?_))) ⟨rfl, rfl⟩
theorem few10_spec (s1 t1 s2 t2 : Bool) (A B : List Int) (n : Int) (st : Store) : Rets P F.podiumref10_Few [.agg [.bool s1, intLst t1 A, .bool s2, intLst t2 B], .int n] st (.bool (fewB A n && fewB B n)) := by
  have c1 := fewBig_spec s1 t1 A n
  have c2 := fewBig_spec s2 t2 B n
  obtain ⟨r1, h1⟩ : ∃ r, r = fewB A n := ⟨_, rfl⟩
  obtain ⟨r2, h2⟩ : ∃ r, r = fewB B n := ⟨_, rfl⟩
  rw [← h1] at c1 ⊢
  rw [← h2] at c2 ⊢
  clear h1 h2
  refine H.podiumref10_Few.view hmix rfl rfl ?_
  cases r1 with
  | false =>
    repeat' (first 
     | (with_reducible refine Fresh.intro fun b hb => ?_) <;> (try simp -dsimp -implicitDefEqProofs [*] at hb)
     | (with_reducible refine Rets.xcall (c1 _) ?_)
     | (simp -dsimp -implicitDefEqProofs [*]))
    exact RetView.drop (st' := st) (by repeat' (first | exact StLe.refl _ | (refine StLe_cons (by simp [*]; done) ?_) | (refine StLe_fresh (by simp [*]; done) ?_))) ⟨rfl, rfl⟩
  | true =>
    repeat' (first 
     | (with_reducible refine Fresh.intro fun b hb => ?_) <;> (try simp -dsimp -implicitDefEqProofs [*] at hb)
     | (with_reducible refine Rets.xcall (c1 _) ?_)
     | (with_reducible refine Rets.xcall (c2 _) ?_)
     | (simp -dsimp -implicitDefEqProofs [*]))
    exact RetView.drop (st' := st) (by repeat' (first | exact StLe.refl _ | (refine StLe_cons (by simp [*]; done) ?_) | (refine StLe_fresh (by simp [*]; done) ?_))) ⟨by simp, rfl⟩
def few57 (n : Int) (A B : List Int) : Bool := (decide (n ≤ 12) || decide (4096 < n)) && (fewB A 3 && fewB B 3)
/-- A recount. -/
structure Rc where
  n : Int
  w : Int
  s1 : Bool
  L1 : List Int
  s2 : Bool
  L2 : List Int
  a : Int
  s : Int
  deriving DecidableEq
def Rc.enc (r : Rc) (t1 t2 : Bool) : List PV := [.int r.n, .int r.w, .bool r.s1, intLst t1 r.L1, .bool r.s2, intLst t2 r.L2, .int r.a, .int r.s]
def Rc.zero : Rc := ⟨0, 0, false, [], false, [], 0, 0⟩
def Rc.Len (r : Rc) : Prop := r.L1.length ≤ 100000 ∧ r.L2.length ≤ 100000
end Go.Proofs.Ytliglilanpfjhaa
