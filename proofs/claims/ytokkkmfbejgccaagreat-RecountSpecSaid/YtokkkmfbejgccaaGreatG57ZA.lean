/- Equality and sizes of recounts. -/
import Derived.Test.YtokkkmfbejgccaaGreatG57Y
import Derived.Test.YtokkkmfbejgccaaGreatLRg
namespace Go.Proofs.YtokkkmfbejgccaaGreat
open Go.Pv
set_option maxRecDepth 100000
set_option maxHeartbeats 8000000
theorem of_spec (n : Int) (d : Nat) (hd : d ≠ 0) (h1 : -1152921504606846976 ≤ n) (h2 : n ≤ 1152921504606846976) (h3 : d ≤ 1152921504606846976) (st : Store) : Rets P F.podiumlaw57_of [.int n, .int d] st (.agg (rC false false (mkRat n d))) := by
  have c := rMake10_spec n d hd h1 h2 h3
  obtain ⟨Q, hQ⟩ : ∃ Q, Q = rC false false (mkRat n d) := ⟨_, rfl⟩
  have lQ : Q.length = 4 := by rw [hQ]; rfl
  have f1 := cells_all (c := [PV.bool false, PV.nil, PV.bool false, PV.nil]) (V := Q) (by simp [lQ])
  have f2 := cells_sub lQ
  have f3 := cells_all (c := Q) (V := Q) rfl
  rw [← hQ] at c ⊢
  clear hQ
  refine H.podiumlaw57_of.view hmix rfl rfl ?_
  repeat' (first 
   | (with_reducible refine Fresh.intro fun b hb => ?_) <;> (try simp -dsimp -implicitDefEqProofs [*] at hb)
   | (with_reducible refine Rets.xcall (c _) ?_)
   | (simp -dsimp -implicitDefEqProofs [*]))
  exact RetView.drop (st' := st) (by repeat' (first | exact StLe.refl _ | (refine StLe_cons (by simp [*]; done) ?_) | (refine StLe_fresh (by simp [*]; done) ?_))) ⟨rfl, rfl⟩
theorem same10_spec (s1 t1 s2 t2 s3 t3 s4 t4 : Bool) (A B C D : List Int) (hA : A.length ≤ 100000) (hB : B.length ≤ 100000) (st : Store) : Rets P F.podiumref10_Same [.agg [.bool s1, intLst t1 A, .bool s2, intLst t2 B], .agg [.bool s3, intLst t3 C, .bool s4, intLst t4 D]] st (.bool ((decide (s1 = s3) && decide (A = C)) && (decide (s2 = s4) && decide (B = D)))) := by
  have c1 := sameBig_spec s1 t1 s3 t3 A C hA
  have c2 := sameBig_spec s2 t2 s4 t4 B D hB
  obtain ⟨r1, h1⟩ : ∃ r, r = (decide (s1 = s3) && decide (A = C)) := ⟨_, rfl⟩
  obtain ⟨r2, h2⟩ : ∃ r, r = (decide (s2 = s4) && decide (B = D)) := ⟨_, rfl⟩
  rw [← h1] at c1 ⊢
  rw [← h2] at c2 ⊢
  clear h1 h2
  refine H.podiumref10_Same.view hmix rfl rfl ?_
  cases r1 with
  | false =>
    repeat' (first 
     | (with_reducible refine Fresh.intro fun b hb => ?_) <;> (try simp -dsimp -implicitDefEqProofs [*] at hb)
     | (with_reducible refine Rets.xcall (c1 _) ?_)
     | (simp -dsimp -implicitDefEqProofs [*]))
    exact RetView.drop (st' := st) (by repeat' (first | exact StLe.refl _ | (refine StLe_cons (by simp [*]; done) ?_) | (refine StLe_fresh (by simp [*]; done) ?_))) ⟨rfl, rfl⟩
  | true =>
    repeat' (first 
     | (with_reducible refine Fresh.intro fun b hb => ?_) <;> (try simp -dsimp -implicitDefEqProofs [*] at hb)
     | (with_reducible refine Rets.xcall (c1 _) ?_)
     | (with_reducible refine Rets.xcall (c2 _) ?_)
     | (simp -dsimp -implicitDefEqProofs [*]))
    exact RetView.drop (st' := st) (by repeat' (first | exact StLe.refl _ | (refine StLe_cons (by simp [*]; done) ?_) | (refine StLe_fresh (by simp [*]; done) ?_))) ⟨by simp, rfl⟩
def fewB (L : List Int) (n : Int) : Bool := decide ((L.length : Int) ≤ n) || (decide (2048 < L.length) && decide (L.length ≤ 2052))
theorem fewBig_spec (s t : Bool) (L : List Int) (n : Int) (st : Store) : Rets P F.podiumref10_FewBig [.agg [.bool s, intLst t L], .int n] st (.bool (fewB L n)) := by
  refine H.podiumref10_FewBig.view hmix rfl rfl ?_
  by_cases h1 : (L.length : Int) ≤ n
  · have e : fewB L n = true := by simp [fewB, h1]
    rw [e]
    repeat' (first 
     | (with_reducible refine Fresh.intro fun b hb => ?_) <;> (try simp -dsimp -implicitDefEqProofs [*] at hb)
     | (simp -dsimp -implicitDefEqProofs [*]))
    exact RetView.drop (st' := st) (by repeat' (first | exact StLe.refl _ | (refine StLe_cons (by simp [*]; done) ?_) | (refine StLe_fresh (by simp [*]; done) ?_))) ⟨rfl, rfl⟩
  · by_cases h2 : 2048 < L.length
    · have h2' : (2048 : Int) < L.length := by omega
      by_cases h3 : L.length ≤ 2052
      · have h3' : (L.length : Int) ≤ 2052 := by omega
        have e : fewB L n = true := by simp [fewB, h2, h3]
        rw [e]
        repeat' (first 
         | (with_reducible refine Fresh.intro fun b hb => ?_) <;> (try simp -dsimp -implicitDefEqProofs [*] at hb)
         | (simp -dsimp -implicitDefEqProofs [*]))
        exact RetView.drop (st' := st) (by repeat' (first | exact StLe.refl _ | (refine StLe_cons (by simp [*]; done) ?_) | (refine StLe_fresh (by simp [*]; done) ?_))) ⟨rfl, rfl⟩
      · have h3' : ¬ (L.length : Int) ≤ 2052 := by omega
        have e : fewB L n = false := by simp [fewB, h1, h3]
        rw [e]
        repeat' (first 
         | (with_reducible refine Fresh.intro fun b hb => ?_) <;> (try simp -dsimp -implicitDefEqProofs [*] at hb)
         | (simp -dsimp -implicitDefEqProofs [*]))
        exact RetView.drop (st' := st) (by repeat' (first | exact StLe.refl _ | (refine StLe_cons (by simp [*]; done) ?_) | (refine StLe_fresh (by simp [*]; done) ?_))) ⟨rfl, rfl⟩
    · have h2' : ¬ (2048 : Int) < L.length := by omega
      have e : fewB L n = false := by simp [fewB, h1, h2]
      rw [e]
      repeat' (first 
       | (with_reducible refine Fresh.intro fun b hb => ?_) <;> (try simp -dsimp -implicitDefEqProofs [*] at hb)
       | (simp -dsimp -implicitDefEqProofs [*]))
      exact RetView.drop (st' := st) (by repeat' (first | exact StLe.refl _ | (refine StLe_cons (by simp [*]; done) ?_) | (refine StLe_fresh (by simp [*]; done) ?_))) ⟨rfl, rfl⟩
theorem few10_spec (s1 t1 s2 t2 : Bool) (A B : List Int) (n : Int) (st : Store) : Rets P F.podiumref10_Few [.agg [.bool s1, intLst t1 A, .bool s2, intLst t2 B], .int n] st (.bool (fewB A n && fewB B n)) := by
  have c1 := fewBig_spec s1 t1 A n
  have c2 := fewBig_spec s2 t2 B n
  obtain ⟨r1, h1⟩ : ∃ r, r = fewB A n := ⟨_, rfl⟩
  obtain ⟨r2, h2⟩ : ∃ r, r = fewB B n := ⟨_, rfl⟩
  rw [← h1] at c1 ⊢
  rw [← h2] at c2 ⊢
  clear h1 h2
  refine H.podiumref10_Few.view hmix rfl rfl ?_
  cases r1 with
  | false =>
    repeat' (first 
     | (with_reducible refine Fresh.intro fun b hb => ?_) <;> (try simp -dsimp -implicitDefEqProofs [*] at hb)
     | (with_reducible refine Rets.xcall (c1 _) ?_)
     | (simp -dsimp -implicitDefEqProofs [*]))
    exact RetView.drop (st' := st) (by repeat' (first | exact StLe.refl _ | (refine StLe_cons (by simp [*]; done) ?_) | (refine StLe_fresh (by simp [*]; done) ?_))) ⟨rfl, rfl⟩
  | true =>
    repeat' (first 
     | (with_reducible refine Fresh.intro fun b hb => ?_) <;> (try simp -dsimp -implicitDefEqProofs [*] at hb)
     | (with_reducible refine Rets.xcall (c1 _) ?_)
     | (with_reducible refine Rets.xcall (c2 _) ?_)
     | (simp -dsimp -implicitDefEqProofs [*]))
    exact RetView.drop (st' := st) (by repeat' (first | exact StLe.refl _ | (refine StLe_cons (by simp [*]; done) ?_) | (refine StLe_fresh (by simp [*]; done) ?_))) ⟨by simp, rfl⟩
def few57 (n : Int) (A B : List Int) : Bool := (decide (n ≤ 12) || decide (4096 < n)) && (fewB A 3 && fewB B 3)
theorem few57_spec (n : Int) (s1 t1 s2 t2 : Bool) (A B : List Int) (st : Store) : Rets P F.podiumref57_Few [.int n, .agg [.bool s1, intLst t1 A, .bool s2, intLst t2 B]] st (.bool (few57 n A B)) := by
  have c1 := few10_spec s1 t1 s2 t2 A B 3
  unfold few57
  obtain ⟨r1, h1⟩ : ∃ r, r = (fewB A 3 && fewB B 3) := ⟨_, rfl⟩
  rw [← h1] at c1 ⊢
  clear h1
  refine H.podiumref57_Few.view hmix rfl rfl ?_
  by_cases h1 : n ≤ 12
  · rw [decide_eq_true h1, Bool.true_or, Bool.true_and]
    repeat' (first 
     | (with_reducible refine Fresh.intro fun b hb => ?_) <;> (try simp -dsimp -implicitDefEqProofs [*] at hb)
     | (with_reducible refine Rets.xcall (c1 _) ?_)
     | (simp -dsimp -implicitDefEqProofs [*]))
    exact RetView.drop (st' := st) (by repeat' (first | exact StLe.refl _ | (refine StLe_cons (by simp [*]; done) ?_) | (refine StLe_fresh (by simp [*]; done) ?_))) ⟨by simp, rfl⟩
  · rw [decide_eq_false h1, Bool.false_or]
    by_cases h2 : 4096 < n
    · rw [decide_eq_true h2, Bool.true_and]
      repeat' (first 
       | (with_reducible refine Fresh.intro fun b hb => ?_) <;> (try simp -dsimp -implicitDefEqProofs [*] at hb)
       | (with_reducible refine Rets.xcall (c1 _) ?_)
       | (simp -dsimp -implicitDefEqProofs [*]))
      exact RetView.drop (st' := st) (by repeat' (first | exact StLe.refl _ | (refine StLe_cons (by simp [*]; done) ?_) | (refine StLe_fresh (by simp [*]; done) ?_))) ⟨by simp, rfl⟩
    · rw [decide_eq_false h2, Bool.false_and]
      repeat' (first 
       | (with_reducible refine Fresh.intro fun b hb => ?_) <;> (try simp -dsimp -implicitDefEqProofs [*] at hb)
       | (simp -dsimp -implicitDefEqProofs [*]))
      exact RetView.drop (st' := st) (by repeat' (first | exact StLe.refl _ | (refine StLe_cons (by simp [*]; done) ?_) | (refine StLe_fresh (by simp [*]; done) ?_))) ⟨rfl, rfl⟩
/-- A recount. -/
structure Rc where
  n : Int
  w : Int
  s1 : Bool
  L1 : List Int
  s2 : Bool
  L2 : List Int
  a : Int
  s : Int
  deriving DecidableEq
def Rc.enc (r : Rc) (t1 t2 : Bool) : List PV := [.int r.n, .int r.w, .bool r.s1, intLst t1 r.L1, .bool r.s2, intLst t2 r.L2, .int r.a, .int r.s]
def Rc.zero : Rc := ⟨0, 0, false, [], false, [], 0, 0⟩
def Rc.Len (r : Rc) : Prop := r.L1.length ≤ 100000 ∧ r.L2.length ≤ 100000
theorem same57_spec (x y : Rc) (hx : x.Len) (t1 t2 t3 t4 : Bool) (st : Store) : Rets P F.podiumref57_Same [.agg (x.enc t1 t2), .agg (y.enc t3 t4)] st (.bool (decide (x = y))) := by
  obtain ⟨n, w, s1, L1, s2, L2, a, s⟩ := x
  obtain ⟨n', w', s1', L1', s2', L2', a', s'⟩ := y
  have c1 := same10_spec s1 t1 s2 t2 s1' t3 s2' t4 L1 L2 L1' L2' hx.1 hx.2
  obtain ⟨q, hq⟩ : ∃ q, q = ((decide (s1 = s1') && decide (L1 = L1')) && (decide (s2 = s2') && decide (L2 = L2'))) := ⟨_, rfl⟩
  have e : decide ((⟨n, w, s1, L1, s2, L2, a, s⟩ : Rc) = ⟨n', w', s1', L1', s2', L2', a', s'⟩) = (decide (n = n') && decide (w = w') && q && decide (a = a') && decide (s = s')) := by
    rw [hq]
    rw [Bool.eq_iff_iff]
    simp only [decide_eq_true_eq, Bool.and_eq_true, Rc.mk.injEq]
    constructor
    · rintro ⟨rfl, rfl, rfl, rfl, rfl, rfl, rfl, rfl⟩; simp
    · rintro ⟨⟨⟨⟨h1, h2⟩, ⟨h3, h4⟩, h5, h6⟩, h7⟩, h8⟩; exact ⟨h1, h2, h3, h4, h5, h6, h7, h8⟩
  rw [e]
  rw [← hq] at c1
  clear hq e hx
  unfold Rc.enc
  refine H.podiumref57_Same.view hmix rfl rfl ?_
  by_cases h1 : n = n'
  · by_cases h2 : w = w'
    · cases q with
      | false =>
        rw [decide_eq_true h1, decide_eq_true h2]
        subst h1; subst h2
        repeat' (first 
         | (with_reducible refine Fresh.intro fun b hb => ?_) <;> (try simp -dsimp -implicitDefEqProofs [*] at hb)
         | (with_reducible refine Rets.xcall (c1 _) ?_)
         | (simp -dsimp -implicitDefEqProofs [*]))
        exact RetView.drop (st' := st) (by repeat' (first | exact StLe.refl _ | (refine StLe_cons (by simp [*]; done) ?_) | (refine StLe_fresh (by simp [*]; done) ?_))) ⟨rfl, rfl⟩
      | true =>
        rw [decide_eq_true h1, decide_eq_true h2]
        subst h1; subst h2
        by_cases h3 : a = a'
        · subst h3
          repeat' (first 
           | (with_reducible refine Fresh.intro fun b hb => ?_) <;> (try simp -dsimp -implicitDefEqProofs [*] at hb)
           | (with_reducible refine Rets.xcall (c1 _) ?_)
           | (simp -dsimp -implicitDefEqProofs [*]))
          exact RetView.drop (st' := st) (by repeat' (first | exact StLe.refl _ | (refine StLe_cons (by simp [*]; done) ?_) | (refine StLe_fresh (by simp [*]; done) ?_))) ⟨by simp, rfl⟩
        · rw [decide_eq_false h3]
          repeat' (first 
           | (with_reducible refine Fresh.intro fun b hb => ?_) <;> (try simp -dsimp -implicitDefEqProofs [*] at hb)
           | (with_reducible refine Rets.xcall (c1 _) ?_)
           | (simp -dsimp -implicitDefEqProofs [*]))
          exact RetView.drop (st' := st) (by repeat' (first | exact StLe.refl _ | (refine StLe_cons (by simp [*]; done) ?_) | (refine StLe_fresh (by simp [*]; done) ?_))) ⟨by simp, rfl⟩
    · rw [decide_eq_true h1, decide_eq_false h2]
      subst h1
      repeat' (first 
       | (with_reducible refine Fresh.intro fun b hb => ?_) <;> (try simp -dsimp -implicitDefEqProofs [*] at hb)
       | (simp -dsimp -implicitDefEqProofs [*]))
      exact RetView.drop (st' := st) (by repeat' (first | exact StLe.refl _ | (refine StLe_cons (by simp [*]; done) ?_) | (refine StLe_fresh (by simp [*]; done) ?_))) ⟨by simp, rfl⟩
  · rw [decide_eq_false h1]
    repeat' (first 
     | (with_reducible refine Fresh.intro fun b hb => ?_) <;> (try simp -dsimp -implicitDefEqProofs [*] at hb)
     | (simp -dsimp -implicitDefEqProofs [*]))
    exact RetView.drop (st' := st) (by repeat' (first | exact StLe.refl _ | (refine StLe_cons (by simp [*]; done) ?_) | (refine StLe_fresh (by simp [*]; done) ?_))) ⟨by simp, rfl⟩
end Go.Proofs.YtokkkmfbejgccaaGreat
