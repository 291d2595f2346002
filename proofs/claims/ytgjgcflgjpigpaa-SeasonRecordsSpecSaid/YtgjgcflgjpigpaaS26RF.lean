/- The reference: few scores. -/
import Derived.Test.YtgjgcflgjpigpaaS26RE
import Derived.Test.YtgjgcflgjpigpaaS26ZG
namespace Go.Proofs.Ytgjgcflgjpigpaa
open Go.Pv
set_option maxRecDepth 100000
set_option maxHeartbeats 8000000
theorem sub_part {R cs : List PV} {a k j m : Nat} (h : sub R a k = some cs) (hj : j + m ≤ k) : sub R (a + j) m = sub cs j m := by
  rw [sub_eq] at h
  split at h
  · rename_i h1
    have e : cs = (R.drop a).take k := (Option.some.inj h).symm
    have hl : cs.length = k := by rw [e, List.length_take, List.length_drop]; omega
    rw [sub_eq, sub_eq, if_pos (by omega), if_pos (by omega), e, List.drop_take, List.take_take, List.drop_drop]
    congr 2
    omega
  · cases h
theorem Rec.row_score {L : List Rec} {n : Nat} (h : n < L.length) : sub (Rec.row L) (n * 7 + 3) 4 = some L[n].score.enc := by
  rw [sub_part (Rec.row_sub L n h) (by omega)]; rfl
def few6 (r : Rw) : Bool := fewB r.L1 6 && fewB r.L2 6
def fewS (L : List Rec) : Bool :=
  if (30 < L.length ∧ L.length ≤ 4096) ∨ 5000 < L.length then false else (L.take 40).all fun r => few6 r.score
theorem fewS_spec (t : Bool) (L : List Rec) (st : Store) : Rets P F.podiumref26_Few [.list t (Rec.row L) L.length] st (.bool (fewS L)) := by
  by_cases h0 : (30 < L.length ∧ L.length ≤ 4096) ∨ 5000 < L.length
  · have e : fewS L = false := by unfold fewS; rw [if_pos h0]
    rw [e]
    refine H.podiumref26_Few.view hmix rfl rfl ?_
    rcases h0 with ⟨a, b⟩ | a
    · have a2 : (30 : Int) < L.length := by omega
      have b2 : (L.length : Int) ≤ 4096 := by omega
      clear e
      repeat' (simp -dsimp -implicitDefEqProofs [*])
      exact .same ⟨rfl, rfl⟩
    · have a2 : (30 : Int) < L.length := by omega
      have b2 : ¬ (L.length : Int) ≤ 4096 := by omega
      have c2 : (5000 : Int) < L.length := by omega
      clear e
      repeat' (simp -dsimp -implicitDefEqProofs [*])
      exact .same ⟨rfl, rfl⟩
  · have e : fewS L = (L.take 40).all fun r => few6 r.score := by unfold fewS; rw [if_neg h0]
    have kT : Hid ((∀ j (h : j < L.length), j < 40 → few6 L[j].score = true) → fewS L = true) := ⟨fun h => by
      rw [e, List.all_eq_true]
      intro r hr
      obtain ⟨j, hj, rfl⟩ := List.mem_iff_getElem.1 hr
      rw [List.length_take] at hj
      rw [List.getElem_take]
      exact h j (by omega) (by omega)⟩
    have kF : Hid (∀ j (h : j < L.length), j < 40 → ¬ few6 L[j].score = true → fewS L = false) := ⟨fun j h hj hn => by
      rw [e, List.all_eq_false]
      refine ⟨L[j], ?_, by simpa using hn⟩
      have h1 : j < (L.take 40).length := by rw [List.length_take]; omega
      have := List.getElem_mem h1
      rwa [List.getElem_take] at this⟩
    obtain ⟨w, hw⟩ : ∃ w, w = fewS L := ⟨_, rfl⟩
    rw [← hw] at kT kF ⊢
    clear hw e
    refine H.podiumref26_Few.view hmix rfl rfl ?_
    have hs : ((30 : Int) < L.length ∧ ¬ (L.length : Int) ≤ 4096 ∧ ¬ (5000 : Int) < L.length) ∨ (¬ (30 : Int) < L.length ∧ ¬ (5000 : Int) < L.length) := by omega
    have hlt : L.length ≤ 5000 := by omega
    clear h0
    rcases hs with ⟨a, b, c⟩ | ⟨a, c⟩
    all_goals
      repeat' (simp -dsimp -implicitDefEqProofs [*])
      refine xloop_for (fun n : Nat => [(0, .list t (Rec.row L) L.length), (3, .int n)]) (fun _ => st) (fun n => n ≤ L.length ∧ n ≤ 40 ∧ Hid (∀ j (h : j < L.length), j < n → few6 L[j].score = true)) (fun n => L.length - n) 0 ⟨Nat.zero_le _, Nat.zero_le _, ⟨fun j _ h => absurd h (by omega)⟩⟩ (by simp) (.refl _) ?_
      rintro n ⟨hn, h30, hI⟩
      try clear a b
      try clear a
      clear c
      by_cases hnl : n < L.length ∧ n < 40
      · obtain ⟨hnl, hn30⟩ := hnl
        have hw := wrap_succ (n := n) (by omega)
        have cf : ∀ st, Rets P F.podiumref10_Few [L[n].score.pv, .int 6] st (.bool (few6 L[n].score)) := few10_spec L[n].score.s1 false L[n].score.s2 false L[n].score.L1 L[n].score.L2 6
        have g1 := Rec.row_score hnl
        have hn7 : n * 7 < L.length * 7 := by omega
        have hn3 : (n : Int) < 40 := by omega
        by_cases hr : few6 L[n].score = true
        · have hI2 : Hid (∀ j (h : j < L.length), j < n + 1 → few6 L[j].score = true) := ⟨fun j h h2 => if e : j = n then by subst e; exact hr else hI.out j h (by omega)⟩
          rw [hr] at cf
          clear hI kT kF hr
          repeat' (first 
           | (with_reducible refine Rets.xcall (cf _) ?_)
           | (simp -dsimp -implicitDefEqProofs [*]))
          exact Next.intro (n + 1) ⟨by omega, by omega, hI2⟩ (by omega) (by simp) (by repeat' (first | exact StLe.refl _ | (refine StLe_cons (by simp [*]; done) ?_) | (refine StLe_fresh (by simp [*]; done) ?_)))
        · have e := kF.out n hnl hn30 hr
          have hr2 : few6 L[n].score = false := by simpa using hr
          rw [hr2] at cf
          subst e
          clear hI kT kF hr hr2
          repeat' (first 
           | (with_reducible refine Rets.xcall (cf _) ?_)
           | (simp -dsimp -implicitDefEqProofs [*]))
          exact .same ⟨rfl, rfl⟩
      · have e := kT.out fun j h hj => hI.out j h (by omega)
        subst e
        clear hI kT kF
        by_cases hn2 : n < L.length
        · have hn3 : ¬ (n : Int) < 40 := by omega
          clear hnl
          repeat' (simp -dsimp -implicitDefEqProofs [*])
          exact .same ⟨rfl, rfl⟩
        · clear hnl
          repeat' (simp -dsimp -implicitDefEqProofs [*])
          exact .same ⟨rfl, rfl⟩
end Go.Proofs.Ytgjgcflgjpigpaa
/- Scores of few digits: comparing. -/
namespace Go.Proofs.Ytgjgcflgjpigpaa
open Go.Pv
set_option maxRecDepth 100000
set_option maxHeartbeats 8000000
/-- What is right and of few digits is a number of few digits. -/
theorem few6_is {r : Rw} (h1 : okR r = true) (h2 : few6 r = true) : ∃ q : Rat, r.enc = rC false false q ∧ r.val = q ∧ dl q.num.natAbs ≤ 6 ∧ dl q.den ≤ 6 := by
  obtain ⟨q, hq⟩ := ratOk_iff.1 h1
  have hv : r.val = q := IsRat.val hq
  simp only [few6, fewB, Bool.and_eq_true, Bool.or_eq_true, decide_eq_true_eq] at h2
  obtain ⟨s1, L1, s2, L2⟩ := r
  obtain ⟨rfl, rfl, rfl, rfl, a1, a2⟩ := hq
  have e1 : (digs q.num.natAbs).length = dl q.num.natAbs := rfl
  have e2 : (digs q.den).length = dl q.den := rfl
  simp only [e1, e2] at h2
  refine ⟨q, by rw [rC_cells]; rfl, hv, by omega, by omega⟩
theorem few6_small {q : Rat} (h1 : dl q.num.natAbs ≤ 6) (h2 : dl q.den ≤ 6) : Small q := ⟨by omega, by omega⟩
theorem few6_cross {a b : Rat} (h1 : dl a.num.natAbs ≤ 6) (h2 : dl b.den ≤ 6) : dl (a.num * b.den).natAbs ≤ 2048 := by
  have := dl_mul a.num.natAbs b.den
  rw [Int.natAbs_mul]
  show dl (a.num.natAbs * b.den) ≤ 2048
  omega
/-- Comparing of scores of few digits: both sides. -/
theorem cmp6 {x y : Rw} (hx : okR x = true) (fx : few6 x = true) (hy : okR y = true) (fy : few6 y = true) : ∃ c : Int, (c < 0 ↔ x.val < y.val) ∧ (c ≤ 0 ↔ x.val ≤ y.val) ∧ (∀ st, Rets P F.ratio_Cmp [x.pv, y.pv] st (.tuple [.int c, .int 0])) ∧ (∀ st, Rets P F.podiumref10_Cmp [x.pv, y.pv] st (.tuple [.int c, .int 0])) := by
  obtain ⟨a, ea, va, a1, a2⟩ := few6_is hx fx
  obtain ⟨b, eb, vb, b1, b2⟩ := few6_is hy fy
  have c1 := ratCmp_spec false false false false a b (few6_small a1 a2) (few6_small b1 b2) (few6_cross a1 b2) (few6_cross b1 a2)
  have c2 := rCmp10_spec false false false false a b (few6_small a1 a2) (few6_small b1 b2) (few6_cross a1 b2) (few6_cross b1 a2)
  rw [← ea, ← eb] at c1 c2
  refine ⟨_, ?_, ?_, c1, c2⟩
  · rw [va, vb]; exact cmpR_lt
  · rw [va, vb]; exact cmpR_le
end Go.Proofs.Ytgjgcflgjpigpaa
