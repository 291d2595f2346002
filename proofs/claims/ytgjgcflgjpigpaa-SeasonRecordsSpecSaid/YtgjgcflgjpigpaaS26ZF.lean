/- Scores that are listed rightly; comparing. -/
import Derived.Test.YtgjgcflgjpigpaaS26ZD
namespace Go.Proofs.Ytgjgcflgjpigpaa
open Go.Pv
set_option maxRecDepth 100000
set_option maxHeartbeats 8000000
def okR (r : Rw) : Bool := ratOk r.s1 r.L1 r.s2 r.L2
/-- A score is listed rightly behind a number. -/
def rightR (x : Rec) (last : Int) : Bool := btw x.no (last + 1) 1048576 && (btw x.entry 0 4095 && (btw x.at_ 0 2097151 && okR x.score))
theorem right_spec (x : Rec) (hx : x.score.Len) (last : Int) (h0 : -1 ≤ last) (h1 : last ≤ 1048576) (st : Store) : Rets P F.season_right [x.pv, .int last] st (.bool (rightR x last)) := by
  have c0 : ∀ st, Rets P F.ratio_Check [x.score.pv] st (.int (errB (okR x.score) 100)) := ratCheck_spec x.score.s1 false x.score.s2 false x.score.L1 x.score.L2 hx.1 hx.2
  have c1 := between_spec x.no (last + 1) 1048576
  have c2 := between_spec x.entry 0 4095
  have c3 := between_spec x.at_ 0 2097151
  have w : IntKind.i64.wrap (last + 1) = last + 1 := wrap_in (by omega) (by omega)
  unfold rightR
  obtain ⟨v0, q0⟩ : ∃ v, v = okR x.score := ⟨_, rfl⟩
  obtain ⟨v1, q1⟩ : ∃ v, v = btw x.no (last + 1) 1048576 := ⟨_, rfl⟩
  obtain ⟨v2, q2⟩ : ∃ v, v = btw x.entry 0 4095 := ⟨_, rfl⟩
  obtain ⟨v3, q3⟩ : ∃ v, v = btw x.at_ 0 2097151 := ⟨_, rfl⟩
  rw [← q0] at c0 ⊢
  rw [← q1] at c1 ⊢
  rw [← q2] at c2 ⊢
  rw [← q3] at c3 ⊢
  clear q0 q1 q2 q3 hx
  refine H.season_right.view hmix rfl rfl ?_
  cases v1 <;> cases v2 <;> cases v3 <;> cases v0 <;>
  (simp only [errB, Bool.false_and, Bool.true_and, if_true, if_false, Bool.false_eq_true] at c0 c1 c2 c3 ⊢
   repeat' (first 
    | (with_reducible refine Fresh.intro fun b hb => ?_) <;> (try simp -dsimp -implicitDefEqProofs [*] at hb)
    | (with_reducible refine Rets.xcall (c0 _) ?_)
    | (with_reducible refine Rets.xcall (c1 _) ?_)
    | (with_reducible refine Rets.xcall (c2 _) ?_)
    | (with_reducible refine Rets.xcall (c3 _) ?_)
    | (simp -dsimp -implicitDefEqProofs [*]))
   exact RetView.drop (st' := st) (by repeat' (first | exact StLe.refl _ | (refine StLe_cons (by simp [*]; done) ?_) | (refine StLe_fresh (by simp [*]; done) ?_))) ⟨rfl, rfl⟩)
theorem less_spec (x y : Rec) (b : Nat) (c : Int) (hc : ∀ st, Rets P F.ratio_Cmp [x.score.pv, y.score.pv] st (.tuple [.int c, .int 0])) (st : Store) (_hb : sget st b = some (.arr T.seasonbook [.int 0])) : Rets P F.Pseason_book_less [.ptr b 0, x.pv, y.pv] st (.bool (decide (c < 0))) := by
  refine H.Pseason_book_less.view hmix rfl rfl ?_
  repeat' (first 
   | (with_reducible refine Fresh.intro fun b hb => ?_) <;> (try simp -dsimp -implicitDefEqProofs [*] at hb)
   | (with_reducible refine Rets.xcall (hc _) ?_)
   | (simp -dsimp -implicitDefEqProofs [*]))
  exact RetView.drop (st' := st) (by repeat' (first | exact StLe.refl _ | (refine StLe_cons (by simp [*]; done) ?_) | (refine StLe_fresh (by simp [*]; done) ?_))) ⟨rfl, rfl⟩
end Go.Proofs.Ytgjgcflgjpigpaa
/- The reference: amounts, equal lists. -/
namespace Go.Proofs.Ytgjgcflgjpigpaa
open Go.Pv
set_option maxRecDepth 100000
set_option maxHeartbeats 8000000
theorem sameInts_spec (t u : Bool) (A B : List Int) (hA : A.length ≤ 9223372036854775807) (st : Store) : Rets P F.podiumref26_SameInts [intLst t A, intLst u B] st (.bool (decide (A = B))) := by
  refine H.podiumref26_SameInts.view hmix rfl rfl ?_
  by_cases hl : A.length = B.length
  case neg =>
    have e : decide (A = B) = false := decide_eq_false fun h => hl (by rw [h])
    have hl2 : ¬ (A.length : Int) = B.length := by omega
    rw [e]
    clear e
    repeat' (simp -dsimp -implicitDefEqProofs [*])
    exact .same ⟨rfl, rfl⟩
  have hB : (intRow B).length = A.length := by simp [hl]
  have kE : Hid ((∀ j (h1 : j < A.length) (h2 : j < B.length), A[j] = B[j]) → decide (A = B) = true) := ⟨fun h => decide_eq_true (List.ext_getElem hl h)⟩
  have kN : Hid (∀ j (h1 : j < A.length) (h2 : j < B.length), ¬ A[j] = B[j] → decide (A = B) = false) := ⟨fun j h1 h2 h => decide_eq_false fun e => h (by subst e; rfl)⟩
  obtain ⟨w, hw⟩ : ∃ w, w = decide (A = B) := ⟨_, rfl⟩
  rw [← hw] at kE kN ⊢
  clear hw
  repeat' (simp -dsimp -implicitDefEqProofs [*])
  have hl2 : (A.length : Int) = B.length := by omega
  refine xloop_for (fun n : Nat => [(0, intLst t A), (1, intLst u B), (5, .int n)]) (fun _ => st) (fun n => n ≤ A.length ∧ Hid (∀ j (h1 : j < A.length) (h2 : j < B.length), j < n → A[j] = B[j])) (fun n => A.length - n) 0 ⟨Nat.zero_le _, ⟨fun j _ _ h => absurd h (by omega)⟩⟩ (by simp) (.refl _) ?_
  rintro n ⟨hn, hI⟩
  clear hB
  by_cases hnl : n < A.length
  · have ww := wrap_succ (n := n) (by omega)
    have hnB : n < B.length := by omega
    have g1 := intRow_get A n hnl
    have g2 := intRow_get B n hnB
    have kNn := kN.out n hnl hnB
    have kS : Hid (A[n] = B[n] → ∀ j (h1 : j < A.length) (h2 : j < B.length), j < n + 1 → A[j] = B[j]) := ⟨fun h j h1 h2 h3 => if e : j = n then by subst e; exact h else hI.out j h1 h2 (by omega)⟩
    clear hI kE kN hl hl2
    by_cases h : A[n] = B[n]
    · have e : Hid _ := ⟨kS.out h⟩
      clear kNn kS
      repeat' (simp -dsimp -implicitDefEqProofs [*])
      exact Next.intro (n + 1) ⟨by omega, e⟩ (by omega) (by simp) (by repeat' (first | exact StLe.refl _ | (refine StLe_cons (by simp [*]; done) ?_) | (refine StLe_fresh (by simp [*]; done) ?_)))
    · have e := kNn h
      subst e
      clear kNn kS
      repeat' (simp -dsimp -implicitDefEqProofs [*])
      exact .same ⟨rfl, rfl⟩
  · have e : n = A.length := by omega
    subst e
    have e := kE.out fun j h1 h2 => hI.out j h1 h2 h1
    subst e
    clear hI kE kN hl hl2
    repeat' (simp -dsimp -implicitDefEqProofs [*])
    exact .same ⟨rfl, rfl⟩
end Go.Proofs.Ytgjgcflgjpigpaa
/- The reference: a number is put into its place. -/
namespace Go.Proofs.Ytgjgcflgjpigpaa
open Go.Pv
set_option maxRecDepth 100000
set_option maxHeartbeats 8000000
end Go.Proofs.Ytgjgcflgjpigpaa
/- The reference: few points. -/
namespace Go.Proofs.Ytgjgcflgjpigpaa
open Go.Pv
set_option maxRecDepth 100000
set_option maxHeartbeats 8000000
end Go.Proofs.Ytgjgcflgjpigpaa
/- The reference: totals. -/
namespace Go.Proofs.Ytgjgcflgjpigpaa
open Go.Pv
set_option maxRecDepth 100000
set_option maxHeartbeats 8000000
end Go.Proofs.Ytgjgcflgjpigpaa
