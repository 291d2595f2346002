/- Scores that are listed rightly; comparing. -/
import Derived.Test.YtgjgcflgjpigpaaS26ZD
namespace Go.Proofs.Ytgjgcflgjpigpaa
open Go.Pv
set_option maxRecDepth 100000
set_option maxHeartbeats 8000000
def okR (r : Rw) : Bool := ratOk r.s1 r.L1 r.s2 r.L2
/-- A score is listed rightly behind a number. -/
def rightR (x : Rec) (last : Int) : Bool := btw x.no (last + 1) 1048576 && (btw x.entry 0 4095 && (btw x.at_ 0 2097151 && okR x.score))
theorem right_spec (x : Rec) (hx : x.score.Len) (last : Int) (h0 : -1 ≤ last) (h1 : last ≤ 1048576) (st : Store) : Rets P F.season_right [x.pv, .int last] st (.bool (rightR x last)) := by
  have c0 : ∀ st, Rets P F.ratio_Check [x.score.pv] st (.int (errB (okR x.score) 100)) := ratCheck_spec x.score.s1 false x.score.s2 false x.score.L1 x.score.L2 hx.1 hx.2
  have c1 := between_spec x.no (last + 1) 1048576
  have c2 := between_spec x.entry 0 4095
  have c3 := between_spec x.at_ 0 2097151
  have w : IntKind.i64.wrap (last + 1) = last + 1 := wrap_in (by omega) (by omega)
  unfold rightR
  obtain ⟨v0, q0⟩ : ∃ v, v = okR x.score := ⟨_, rfl⟩
  obtain ⟨v1, q1⟩ : ∃ v, v = btw x.no (last + 1) 1048576 := ⟨_, rfl⟩
  obtain ⟨v2, q2⟩ : ∃ v, v = btw x.entry 0 4095 := ⟨_, rfl⟩
  obtain ⟨v3, q3⟩ : ∃ v, v = btw x.at_ 0 2097151 := ⟨_, rfl⟩
  rw [← q0] at c0 ⊢
  rw [← q1] at c1 ⊢
  rw [← q2] at c2 ⊢
  rw [← q3] at c3 ⊢
  clear q0 q1 q2 q3 hx
  refine H.season_right.view hmix rfl rfl ?_
  cases v1 <;> cases v2 <;> cases v3 <;> cases v0 <;>
  (simp only [errB, Bool.false_and, Bool.true_and, if_true, if_false, Bool.false_eq_true] at c0 c1 c2 c3 ⊢
   repeat' (first 
    | (with_reducible refine Fresh.intro fun b hb => ?_) <;> (try simp -dsimp -implicitDefEqProofs [*] at hb)
    | (with_reducible refine Rets.xcall (c0 _) ?_)
    | (with_reducible refine Rets.xcall (c1 _) ?_)
    | (with_reducible refine Rets.xcall (c2 _) ?_)
    | (with_reducible refine Rets.xcall (c3 _) ?_)
    | (simp -dsimp -implicitDefEqProofs [*]))
   exact RetView.drop (st' := st) (by repeat' (first | exact StLe.refl _ | (refine StLe_cons (by simp [*]; done) ?_) | (refine StLe_fresh (by simp [*]; done) ?_))) ⟨rfl, rfl⟩)
theorem less_spec (x y : Rec) (b : Nat) (c : Int) (hc : ∀ st, Rets P F.ratio_Cmp [x.score.pv, y.score.pv] st (.tuple [.int c, .int 0])) (st : Store) (_hb : sget st b = some (.arr T.seasonbook [.int 0])) : Rets P F.Pseason_book_less [.ptr b 0, x.pv, y.pv] st (.bool (decide (c < 0))) := by
  refine H.Pseason_book_less.view hmix rfl rfl ?_
  repeat' (first 
   | (with_reducible refine Fresh.intro fun b hb => ?_) <;> (try simp -dsimp -implicitDefEqProofs [*] at hb)
   | (with_reducible refine Rets.xcall (hc _) ?_)
   | (simp -dsimp -implicitDefEqProofs [*]))
  exact RetView.drop (st' := st) (by repeat' (first | exact StLe.refl _ | (refine StLe_cons (by simp [*]; done) ?_) | (refine StLe_fresh (by simp [*]; done) ?_))) ⟨rfl, rfl⟩
end Go.Proofs.Ytgjgcflgjpigpaa
/- The reference: amounts, equal lists. -/
namespace Go.Proofs.Ytgjgcflgjpigpaa
open Go.Pv
set_option maxRecDepth 100000
set_option maxHeartbeats 8000000
theorem rAmount_spec (n : Int) (st : Store) : Rets P F.podiumref26_amount [.int n] st (.bool (amt n)) := by
  refine H.podiumref26_amount.pure hmix rfl rfl ?_
  simp -dsimp -implicitDefEqProofs
  simp [amt]; grind
theorem sameInts_spec (t u : Bool) (A B : List Int) (hA : A.length ≤ 9223372036854775807) (st : Store) : Rets P F.podiumref26_SameInts [intLst t A, intLst u B] st (.bool (decide (A = B))) := by
  refine H.podiumref26_SameInts.view hmix rfl rfl ?_
  by_cases hl : A.length = B.length
  case neg =>
    have e : decide (A = B) = false := decide_eq_false fun h => hl (by rw [h])
    have hl2 : ¬ (A.length : Int) = B.length := by omega
    rw [e]
    clear e
    repeat' (simp -dsimp -implicitDefEqProofs [*])
    exact .same ⟨rfl, rfl⟩
  have hB : (intRow B).length = A.length := by simp [hl]
  have kE : Hid ((∀ j (h1 : j < A.length) (h2 : j < B.length), A[j] = B[j]) → decide (A = B) = true) := ⟨fun h => decide_eq_true (List.ext_getElem hl h)⟩
  have kN : Hid (∀ j (h1 : j < A.length) (h2 : j < B.length), ¬ A[j] = B[j] → decide (A = B) = false) := ⟨fun j h1 h2 h => decide_eq_false fun e => h (by subst e; rfl)⟩
  obtain ⟨w, hw⟩ : ∃ w, w = decide (A = B) := ⟨_, rfl⟩
  rw [← hw] at kE kN ⊢
  clear hw
  repeat' (simp -dsimp -implicitDefEqProofs [*])
  have hl2 : (A.length : Int) = B.length := by omega
  refine xloop_for (fun n : Nat => [(0, intLst t A), (1, intLst u B), (5, .int n)]) (fun _ => st) (fun n => n ≤ A.length ∧ Hid (∀ j (h1 : j < A.length) (h2 : j < B.length), j < n → A[j] = B[j])) (fun n => A.length - n) 0 ⟨Nat.zero_le _, ⟨fun j _ _ h => absurd h (by omega)⟩⟩ (by simp) (.refl _) ?_
  rintro n ⟨hn, hI⟩
  clear hB
  by_cases hnl : n < A.length
  · have ww := wrap_succ (n := n) (by omega)
    have hnB : n < B.length := by omega
    have g1 := intRow_get A n hnl
    have g2 := intRow_get B n hnB
    have kNn := kN.out n hnl hnB
    have kS : Hid (A[n] = B[n] → ∀ j (h1 : j < A.length) (h2 : j < B.length), j < n + 1 → A[j] = B[j]) := ⟨fun h j h1 h2 h3 => if e : j = n then by subst e; exact h else hI.out j h1 h2 (by omega)⟩
    clear hI kE kN hl hl2
    by_cases h : A[n] = B[n]
    · have e : Hid _ := ⟨kS.out h⟩
      clear kNn kS
      repeat' (simp -dsimp -implicitDefEqProofs [*])
      exact Next.intro (n + 1) ⟨by omega, e⟩ (by omega) (by simp) (by repeat' (first | exact StLe.refl _ | (refine StLe_cons (by simp [*]; done) ?_) | (refine StLe_fresh (by simp [*]; done) ?_)))
    · have e := kNn h
      subst e
      clear kNn kS
      repeat' (simp -dsimp -implicitDefEqProofs [*])
      exact .same ⟨rfl, rfl⟩
  · have e : n = A.length := by omega
    subst e
    have e := kE.out fun j h1 h2 => hI.out j h1 h2 h1
    subst e
    clear hI kE kN hl hl2
    repeat' (simp -dsimp -implicitDefEqProofs [*])
    exact .same ⟨rfl, rfl⟩
end Go.Proofs.Ytgjgcflgjpigpaa
/- The reference: a number is put into its place. -/
namespace Go.Proofs.Ytgjgcflgjpigpaa
open Go.Pv
set_option maxRecDepth 100000
set_option maxHeartbeats 8000000
theorem insF_at {l : List Int} {n : Int} {i : Nat} (hf : Fall l) (hi : i ≤ l.length) (h1 : ∀ j (h : j < l.length), j < i → n ≤ l[j]) (h2 : ∀ h : i < l.length, l[i] < n) : insF n l = l.take i ++ n :: l.drop i := by
  have e := insF_last (x := n) (P := l.take i) (Q := l.drop i) (fun p hp => ?_) (fun q hq => ?_)
  · rw [List.take_append_drop] at e; exact e
  · obtain ⟨j, hj, rfl⟩ := List.mem_iff_getElem.1 hp
    rw [List.length_take] at hj
    rw [List.getElem_take]
    exact h1 j (by omega) (by omega)
  · obtain ⟨j, hj, rfl⟩ := List.mem_iff_getElem.1 hq
    rw [List.length_drop] at hj
    rw [List.getElem_drop]
    have h3 := h2 (by omega)
    by_cases e : j = 0
    · subst e; simpa using h3
    · have := List.pairwise_iff_getElem.1 hf i (i + j) (by omega) (by omega) (by omega)
      omega
theorem rPut_spec (t : Bool) (l : List Int) (hl : l.length ≤ 100000) (hf : Fall l) (n : Int) (st : Store) : Rets P F.podiumref26_put [intLst t l, .int n] st (intLst false (insF n l)) := by
  refine H.podiumref26_put.view hmix rfl rfl ?_
  have kf : Hid (Fall l) := ⟨hf⟩
  clear hf
  repeat' (simp -dsimp -implicitDefEqProofs [-xappend_list, *])
  refine xloop_for (fun i : Nat => [(0, intLst t l), (1, .int n), (5, .int i)]) (fun _ => st) (fun i => i ≤ l.length ∧ Hid (∀ j (h : j < l.length), j < i → n ≤ l[j])) (fun i => l.length - i) 0 ⟨Nat.zero_le _, ⟨fun j _ h => absurd h (by omega)⟩⟩ (by simp) (.refl _) ?_
  rintro i ⟨hi, hI⟩
  have hdone : Hid ((∀ h : i < l.length, l[i] < n) → l.take i ++ n :: l.drop i = insF n l) := ⟨fun h => (insF_at kf.out hi hI.out h).symm⟩
  have hlt : (intRow l).take i = intRow (l.take i) := intRow_take l i
  have hld : (intRow l).drop i = intRow (l.drop i) := by simp [intRow]
  have hmin : min i l.length = i := by omega
  by_cases hil : i < l.length
  · have g := intRow_get l i hil
    by_cases hn : n ≤ l[i]
    · have hw := wrap_succ (n := i) (by omega)
      have hI2 : Hid (∀ j (h : j < l.length), j < i + 1 → n ≤ l[j]) := ⟨fun j h h2 => if e : j = i then by subst e; exact hn else hI.out j h (by omega)⟩
      clear hI hdone hlt hld
      repeat' (simp -dsimp -implicitDefEqProofs [-xappend_list, *])
      exact Next.intro (i + 1) ⟨by omega, hI2⟩ (by omega) (by simp) (by repeat' (first | exact StLe.refl _ | (refine StLe_cons (by simp [*]; done) ?_) | (refine StLe_fresh (by simp [*]; done) ?_)))
    · have e : Hid _ := ⟨hdone.out fun _ => by omega⟩
      clear hI hdone
      repeat' (first 
       | (with_reducible refine DrawLate.intro [] ?_)
       | (simp -dsimp -implicitDefEqProofs [-xappend_list, *]))
      refine xappend_accQ intRow_len intRow_append (none : Option (Acc Int)) trivial (l.take i) rfl (by simp; omega) (by simp; omega) fun o1 ho1 hl1 => ?_
      refine Cls_and (Cls_acc ho1 (Cls.self _ _)) ?_
      repeat' (simp -dsimp -implicitDefEqProofs [-xappend_list, *])
      refine xappend_accQ intRow_len intRow_append o1 ho1 [n] (by simp [intRow]) (by simp) (by simp [hl1]; omega) fun o2 ho2 hl2 => ?_
      refine Cls_and (Cls_acc ho2 (Cls.self _ _)) ?_
      repeat' (simp -dsimp -implicitDefEqProofs [-xappend_list, *])
      refine xappend_accQ intRow_len intRow_append o2 ho2 (l.drop i) rfl (by simp) (by simp [hl1, hl2]; omega) fun o3 ho3 hl3 => ?_
      refine Cls_and (Cls_acc ho3 (Cls.self _ _)) ?_
      repeat' (simp -dsimp -implicitDefEqProofs [-xappend_list, *])
      have e2 : accL o3 = insF n l := by rw [hl3, hl2, hl1, ← e.out]; simp
      exact .accQ1 rfl ho3 (.same ⟨by rw [e2], rfl⟩)
  · have e : Hid _ := ⟨hdone.out fun h => absurd h hil⟩
    clear hI hdone
    repeat' (first 
     | (with_reducible refine DrawLate.intro [] ?_)
     | (simp -dsimp -implicitDefEqProofs [-xappend_list, *]))
    refine xappend_accQ intRow_len intRow_append (none : Option (Acc Int)) trivial (l.take i) rfl (by simp; omega) (by simp; omega) fun o1 ho1 hl1 => ?_
    refine Cls_and (Cls_acc ho1 (Cls.self _ _)) ?_
    repeat' (simp -dsimp -implicitDefEqProofs [-xappend_list, *])
    refine xappend_accQ intRow_len intRow_append o1 ho1 [n] (by simp [intRow]) (by simp) (by simp [hl1]; omega) fun o2 ho2 hl2 => ?_
    refine Cls_and (Cls_acc ho2 (Cls.self _ _)) ?_
    repeat' (simp -dsimp -implicitDefEqProofs [-xappend_list, *])
    refine xappend_accQ intRow_len intRow_append o2 ho2 (l.drop i) rfl (by simp) (by simp [hl1, hl2]; omega) fun o3 ho3 hl3 => ?_
    refine Cls_and (Cls_acc ho3 (Cls.self _ _)) ?_
    repeat' (simp -dsimp -implicitDefEqProofs [-xappend_list, *])
    have e2 : accL o3 = insF n l := by rw [hl3, hl2, hl1, ← e.out]; simp
    exact .accQ1 rfl ho3 (.same ⟨by rw [e2], rfl⟩)
end Go.Proofs.Ytgjgcflgjpigpaa
/- The reference: few points. -/
namespace Go.Proofs.Ytgjgcflgjpigpaa
open Go.Pv
set_option maxRecDepth 100000
set_option maxHeartbeats 8000000
def fewP (L : List (Bool × List Int)) : Bool :=
  if (20 < L.length ∧ L.length ≤ 4096) ∨ 5000 < L.length then false else (L.take 30).all fun r => decide (r.2.length ≤ 70)
theorem fewPoints_spec (t : Bool) (L : List (Bool × List Int)) (st : Store) : Rets P F.podiumref26_FewPoints [llLst t L] st (.bool (fewP L)) := by
  by_cases h0 : (20 < L.length ∧ L.length ≤ 4096) ∨ 5000 < L.length
  · have e : fewP L = false := by unfold fewP; rw [if_pos h0]
    rw [e]
    refine H.podiumref26_FewPoints.view hmix rfl rfl ?_
    rcases h0 with ⟨a, b⟩ | a
    · have a2 : (20 : Int) < L.length := by omega
      have b2 : (L.length : Int) ≤ 4096 := by omega
      clear e
      repeat' (simp -dsimp -implicitDefEqProofs [*])
      exact .same ⟨rfl, rfl⟩
    · have a2 : (20 : Int) < L.length := by omega
      have b2 : ¬ (L.length : Int) ≤ 4096 := by omega
      have c2 : (5000 : Int) < L.length := by omega
      clear e
      repeat' (simp -dsimp -implicitDefEqProofs [*])
      exact .same ⟨rfl, rfl⟩
  · have e : fewP L = (L.take 30).all fun r => decide (r.2.length ≤ 70) := by unfold fewP; rw [if_neg h0]
    have kT : Hid ((∀ j (h : j < L.length), j < 30 → L[j].2.length ≤ 70) → fewP L = true) := ⟨fun h => by
      rw [e, List.all_eq_true]
      intro r hr
      obtain ⟨j, hj, rfl⟩ := List.mem_iff_getElem.1 hr
      rw [List.length_take] at hj
      rw [List.getElem_take]
      exact decide_eq_true (h j (by omega) (by omega))⟩
    have kF : Hid (∀ j (h : j < L.length), j < 30 → ¬ L[j].2.length ≤ 70 → fewP L = false) := ⟨fun j h hj hn => by
      rw [e, List.all_eq_false]
      refine ⟨L[j], ?_, by simpa using hn⟩
      have h1 : j < (L.take 30).length := by rw [List.length_take]; omega
      have := List.getElem_mem h1
      rwa [List.getElem_take] at this⟩
    obtain ⟨w, hw⟩ : ∃ w, w = fewP L := ⟨_, rfl⟩
    rw [← hw] at kT kF ⊢
    clear hw e
    refine H.podiumref26_FewPoints.view hmix rfl rfl ?_
    have hs : ((20 : Int) < L.length ∧ ¬ (L.length : Int) ≤ 4096 ∧ ¬ (5000 : Int) < L.length) ∨ (¬ (20 : Int) < L.length ∧ ¬ (5000 : Int) < L.length) := by omega
    have hlt : L.length ≤ 5000 := by omega
    clear h0
    rcases hs with ⟨a, b, c⟩ | ⟨a, c⟩
    all_goals
      repeat' (simp -dsimp -implicitDefEqProofs [*])
      refine xloop_for (fun n : Nat => [(0, llLst t L), (3, .int n)]) (fun _ => st) (fun n => n ≤ L.length ∧ n ≤ 30 ∧ Hid (∀ j (h : j < L.length), j < n → L[j].2.length ≤ 70)) (fun n => L.length - n) 0 ⟨Nat.zero_le _, Nat.zero_le _, ⟨fun j _ h => absurd h (by omega)⟩⟩ (by simp) (.refl _) ?_
      rintro n ⟨hn, h30, hI⟩
      try clear a b
      try clear a
      clear c
      by_cases hnl : n < L.length ∧ n < 30
      · obtain ⟨hnl, hn30⟩ := hnl
        have hw := wrap_succ (n := n) (by omega)
        have g1 := llRow_get hnl
        have g2 := llRow_getE hnl
        have hn3 : (n : Int) < 30 := by omega
        by_cases hr : L[n].2.length ≤ 70
        · have hI2 : Hid (∀ j (h : j < L.length), j < n + 1 → L[j].2.length ≤ 70) := ⟨fun j h h2 => if e : j = n then by subst e; exact hr else hI.out j h (by omega)⟩
          have hr2 : ¬ (70 : Int) < L[n].2.length := by omega
          clear hI kT kF
          repeat' (simp -dsimp -implicitDefEqProofs [*])
          exact Next.intro (n + 1) ⟨by omega, by omega, hI2⟩ (by omega) (by simp) (by repeat' (first | exact StLe.refl _ | (refine StLe_cons (by simp [*]; done) ?_) | (refine StLe_fresh (by simp [*]; done) ?_)))
        · have e := kF.out n hnl hn30 hr
          have hr2 : (70 : Int) < L[n].2.length := by omega
          subst e
          clear hI kT kF
          repeat' (simp -dsimp -implicitDefEqProofs [*])
          exact .same ⟨rfl, rfl⟩
      · have e := kT.out fun j h hj => hI.out j h (by omega)
        subst e
        clear hI kT kF
        by_cases hn2 : n < L.length
        · have hn3 : ¬ (n : Int) < 30 := by omega
          clear hnl
          repeat' (simp -dsimp -implicitDefEqProofs [*])
          exact .same ⟨rfl, rfl⟩
        · clear hnl
          repeat' (simp -dsimp -implicitDefEqProofs [*])
          exact .same ⟨rfl, rfl⟩
end Go.Proofs.Ytgjgcflgjpigpaa
/- The reference: totals. -/
namespace Go.Proofs.Ytgjgcflgjpigpaa
open Go.Pv
set_option maxRecDepth 100000
set_option maxHeartbeats 8000000
structure TotK (L : List (Bool × List Int)) (best E : Int) (M : List Int) : Prop where
  k1 : 4096 < L.length → E = 2 ∧ M = []
  k2 : ∀ j (h : j < L.length), 64 < L[j].2.length → E = 2 ∧ M = []
  k3 : L.length ≤ 4096 → (∀ r ∈ L, r.2.length ≤ 64) → ¬ (0 ≤ best ∧ best ≤ 64) → E = 260 ∧ M = []
  k4 : L.length ≤ 4096 → (∀ r ∈ L, r.2.length ≤ 64) → ∀ j (h : j < L.length), ∀ x ∈ L[j].2, amt x = false → E = 260 ∧ M = []
  k5 : L.length ≤ 4096 → (∀ r ∈ L, r.2.length ≤ 64) → (0 ≤ best ∧ best ≤ 64) → (∀ r ∈ L, ∀ x ∈ r.2, amt x = true) → E = 0 ∧ M = L.map fun r => topSum r.2 best.toNat
theorem tot_k (L : List (Bool × List Int)) (best : Int) : TotK L best (totE L best) (totL L best) := by
  have two : totE L best = 2 → totE L best = 2 ∧ totL L best = [] := fun h => ⟨h, by unfold totL; rw [if_neg (by omega)]⟩
  have n26 : totE L best = 260 → totE L best = 260 ∧ totL L best = [] := fun h => ⟨h, by unfold totL; rw [if_neg (by omega)]⟩
  have a1 : L.length ≤ 4096 → (∀ r ∈ L, r.2.length ≤ 64) → (decide ((4096 : Int) < L.length) || L.any fun r => decide ((64 : Int) < r.2.length)) = false := fun h1 h2 => by
    rw [decide_eq_false (by omega), Bool.false_or, List.any_eq_false]
    intro r hr
    have := h2 r hr
    simp; omega
  refine ⟨fun h => two ?_, fun j h hj => two ?_, fun h1 h2 h3 => n26 ?_, fun h1 h2 j h x hx ha => n26 ?_, fun h1 h2 h3 h4 => ?_⟩
  · unfold totE; rw [decide_eq_true (by omega)]; rfl
  · unfold totE
    rw [if_pos]
    rw [Bool.or_eq_true, List.any_eq_true]
    exact .inr ⟨L[j], List.getElem_mem h, decide_eq_true (by omega)⟩
  · unfold totE
    rw [a1 h1 h2, if_neg (by simp), if_pos]
    rw [Bool.or_eq_true]
    refine .inl ?_
    simp only [btw, Bool.not_eq_true', Bool.and_eq_false_iff, decide_eq_false_iff_not]
    omega
  · unfold totE
    rw [a1 h1 h2, if_neg (by simp), if_pos]
    rw [Bool.or_eq_true, List.any_eq_true]
    refine .inr ⟨L[j], List.getElem_mem h, ?_⟩
    rw [Bool.not_eq_true', List.all_eq_false]
    exact ⟨x, hx, by rw [ha]; simp⟩
  · have e : totE L best = 0 := by
      unfold totE
      rw [a1 h1 h2, if_neg (by simp), if_neg]
      rw [Bool.or_eq_true, List.any_eq_true]
      rintro (h | ⟨r, hr, h⟩)
      · simp only [btw, Bool.not_eq_true', Bool.and_eq_false_iff, decide_eq_false_iff_not] at h; omega
      · rw [List.all_eq_true.2 (h4 r hr)] at h; cases h
    exact ⟨e, by unfold totL; rw [if_pos e]⟩
end Go.Proofs.Ytgjgcflgjpigpaa
