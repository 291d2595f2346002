/- The reference: equal lists of scores. -/
import Derived.Test.YtgjgcflgjpigpaaS26RF
import Derived.Test.YtgjgcflgjpigpaaS26ZM
namespace Go.Proofs.Ytgjgcflgjpigpaa
open Go.Pv
set_option maxRecDepth 100000
set_option maxHeartbeats 8000000
theorem sameR_spec (t u : Bool) (A B : List Rec) (hA : A.length ≤ 9223372036854775807) (hS : ∀ x ∈ A, x.score.Len) (st : Store) : Rets P F.podiumref26_Same [.list t (Rec.row A) A.length, .list u (Rec.row B) B.length] st (.bool (decide (A = B))) := by
  refine H.podiumref26_Same.view hmix rfl rfl ?_
  by_cases hl : A.length = B.length
  case neg =>
    have e : decide (A = B) = false := decide_eq_false fun h => hl (by rw [h])
    have hl2 : ¬ (A.length : Int) = B.length := by omega
    rw [e]
    clear e
    repeat' (simp -dsimp -implicitDefEqProofs [*])
    exact .same ⟨rfl, rfl⟩
  have kE : Hid ((∀ j (h1 : j < A.length) (h2 : j < B.length), A[j] = B[j]) → decide (A = B) = true) := ⟨fun h => decide_eq_true (List.ext_getElem hl h)⟩
  have kN : Hid (∀ j (h1 : j < A.length) (h2 : j < B.length), ¬ A[j] = B[j] → decide (A = B) = false) := ⟨fun j h1 h2 h => decide_eq_false fun e => h (by subst e; rfl)⟩
  obtain ⟨w, hw⟩ : ∃ w, w = decide (A = B) := ⟨_, rfl⟩
  rw [← hw] at kE kN ⊢
  clear hw
  repeat' (simp -dsimp -implicitDefEqProofs [*])
  have hl2 : (A.length : Int) = B.length := by omega
  refine xloop_for (fun n : Nat => [(0, .list t (Rec.row A) A.length), (1, .list u (Rec.row B) B.length), (5, .int n)]) (fun _ => st) (fun n => n ≤ A.length ∧ Hid (∀ j (h1 : j < A.length) (h2 : j < B.length), j < n → A[j] = B[j])) (fun n => A.length - n) 0 ⟨Nat.zero_le _, ⟨fun j _ _ h => absurd h (by omega)⟩⟩ (by simp [hl]) (.refl _) ?_
  rintro n ⟨hn, hI⟩
  by_cases hnl : n < A.length
  · have ww := wrap_succ (n := n) (by omega)
    have hnB : n < B.length := by omega
    have kNn := kN.out n hnl hnB
    have kS : Hid (A[n] = B[n] → ∀ j (h1 : j < A.length) (h2 : j < B.length), j < n + 1 → A[j] = B[j]) := ⟨fun h j h1 h2 h3 => if e : j = n then by subst e; exact h else hI.out j h1 h2 (by omega)⟩
    have hsc := hS A[n] (List.getElem_mem hnl)
    have cs : ∀ st, Rets P F.podiumref10_Same [A[n].score.pv, B[n].score.pv] st (.bool ((decide (A[n].score.s1 = B[n].score.s1) && decide (A[n].score.L1 = B[n].score.L1)) && (decide (A[n].score.s2 = B[n].score.s2) && decide (A[n].score.L2 = B[n].score.L2)))) := same10_spec _ false _ false _ false _ false _ _ _ _ hsc.1 hsc.2
    have gA0 : (Rec.row A)[n * 7]? = some (.int A[n].no) := flat_get Rec.enc 7 Rec.len A n 0 hnl (by omega)
    have gA1 : (Rec.row A)[n * 7 + 1]? = some (.int A[n].entry) := flat_get Rec.enc 7 Rec.len A n 1 hnl (by omega)
    have gA2 : (Rec.row A)[n * 7 + 2]? = some (.int A[n].at_) := flat_get Rec.enc 7 Rec.len A n 2 hnl (by omega)
    have gA3 := Rec.row_score hnl
    have gB0 : (Rec.row B)[n * 7]? = some (.int B[n].no) := flat_get Rec.enc 7 Rec.len B n 0 hnB (by omega)
    have gB1 : (Rec.row B)[n * 7 + 1]? = some (.int B[n].entry) := flat_get Rec.enc 7 Rec.len B n 1 hnB (by omega)
    have gB2 : (Rec.row B)[n * 7 + 2]? = some (.int B[n].at_) := flat_get Rec.enc 7 Rec.len B n 2 hnB (by omega)
    have gB3 := Rec.row_score hnB
    have eA0 : ∀ h, (Rec.row A)[n * 7]'h = .int A[n].no := fun h => by have := gA0; rw [List.getElem?_eq_getElem h] at this; exact Option.some.inj this
    have eA1 : ∀ h, (Rec.row A)[n * 7 + 1]'h = .int A[n].entry := fun h => by have := gA1; rw [List.getElem?_eq_getElem h] at this; exact Option.some.inj this
    have eA2 : ∀ h, (Rec.row A)[n * 7 + 2]'h = .int A[n].at_ := fun h => by have := gA2; rw [List.getElem?_eq_getElem h] at this; exact Option.some.inj this
    have eB0 : ∀ h, (Rec.row B)[n * 7]'h = .int B[n].no := fun h => by have := gB0; rw [List.getElem?_eq_getElem h] at this; exact Option.some.inj this
    have eB1 : ∀ h, (Rec.row B)[n * 7 + 1]'h = .int B[n].entry := fun h => by have := gB1; rw [List.getElem?_eq_getElem h] at this; exact Option.some.inj this
    have eB2 : ∀ h, (Rec.row B)[n * 7 + 2]'h = .int B[n].at_ := fun h => by have := gB2; rw [List.getElem?_eq_getElem h] at this; exact Option.some.inj this
    obtain ⟨x, hx⟩ : ∃ x, x = A[n] := ⟨_, rfl⟩
    obtain ⟨y, hy⟩ : ∃ y, y = B[n] := ⟨_, rfl⟩
    rw [← hx] at kNn kS cs gA0 gA1 gA2 gA3 eA0 eA1 eA2
    rw [← hy] at kNn kS cs gB0 gB1 gB2 gB3 eB0 eB1 eB2
    clear hI kE kN hl hl2 hsc hS hx hy
    by_cases h : x = y
    · have e : Hid _ := ⟨kS.out h⟩
      subst h
      have ev : ((decide (x.score.s1 = x.score.s1) && decide (x.score.L1 = x.score.L1)) && (decide (x.score.s2 = x.score.s2) && decide (x.score.L2 = x.score.L2))) = true := by simp
      rw [ev] at cs
      clear kNn kS ev
      repeat' (first 
       | (with_reducible refine Rets.xcall (cs _) ?_)
       | (with_reducible refine DrawLate.intro [] ?_)
       | (simp -dsimp -implicitDefEqProofs [*]))
      exact Next.intro (n + 1) ⟨by omega, e⟩ (by omega) (by simp) (by repeat' (first | exact StLe.refl _ | (refine StLe_cons (by simp [*]; done) ?_) | (refine StLe_fresh (by simp [*]; done) ?_)))
    · have e := kNn h
      subst e
      obtain ⟨v, hv⟩ : ∃ v, v = ((decide (x.score.s1 = y.score.s1) && decide (x.score.L1 = y.score.L1)) && (decide (x.score.s2 = y.score.s2) && decide (x.score.L2 = y.score.L2))) := ⟨_, rfl⟩
      rw [← hv] at cs
      have hne : x.no = y.no → x.entry = y.entry → x.at_ = y.at_ → v = false := fun a1 a2 a3 => by
        cases hv2 : v with
        | false => rfl
        | true =>
          rw [hv] at hv2
          simp only [Bool.and_eq_true, decide_eq_true_eq] at hv2
          refine absurd ?_ h
          obtain ⟨n1, n2, n3, ⟨q1, q2, q3, q4⟩⟩ := x
          obtain ⟨m1, m2, m3, ⟨r1, r2, r3, r4⟩⟩ := y
          simp only at a1 a2 a3 hv2
          obtain ⟨⟨rfl, rfl⟩, rfl, rfl⟩ := hv2
          subst a1; subst a2; subst a3; rfl
      clear kNn kS h hv
      by_cases a1 : x.no = y.no
      · by_cases a2 : x.entry = y.entry
        · by_cases a3 : x.at_ = y.at_
          · obtain rfl := hne a1 a2 a3
            clear hne
            repeat' (first 
             | (with_reducible refine Rets.xcall (cs _) ?_)
             | (with_reducible refine DrawLate.intro [] ?_)
             | (simp -dsimp -implicitDefEqProofs [*]))
            exact .same ⟨rfl, rfl⟩
          · clear hne
            repeat' (first 
             | (with_reducible refine DrawLate.intro [] ?_)
             | (simp -dsimp -implicitDefEqProofs [*]))
            exact .same ⟨rfl, rfl⟩
        · clear hne
          repeat' (first 
           | (with_reducible refine DrawLate.intro [] ?_)
           | (simp -dsimp -implicitDefEqProofs [*]))
          exact .same ⟨rfl, rfl⟩
      · clear hne
        repeat' (first 
         | (with_reducible refine DrawLate.intro [] ?_)
         | (simp -dsimp -implicitDefEqProofs [*]))
        exact .same ⟨rfl, rfl⟩
  · have e : n = A.length := by omega
    subst e
    have e := kE.out fun j h1 h2 => hI.out j h1 h2 h1
    subst e
    clear hI kE kN hl hl2 hS
    repeat' (simp -dsimp -implicitDefEqProofs [*])
    exact .same ⟨rfl, rfl⟩
end Go.Proofs.Ytgjgcflgjpigpaa
/- The reference: scores are listed rightly. -/
namespace Go.Proofs.Ytgjgcflgjpigpaa
open Go.Pv
set_option maxRecDepth 100000
set_option maxHeartbeats 8000000
inductive LineR (x : Rec) (z : Int) (n : Nat) (q : Int) : Prop where
  | f1 (hf : rightR x z = false) (a1 : x.no < 0)
  | f2 (hf : rightR x z = false) (a1 : ¬ x.no < 0) (a2 : 1048576 < x.no)
  | f3 (hf : rightR x z = false) (a1 : ¬ x.no < 0) (a2 : ¬ 1048576 < x.no) (a3 : x.entry < 0)
  | f4 (hf : rightR x z = false) (a1 : ¬ x.no < 0) (a2 : ¬ 1048576 < x.no) (a3 : ¬ x.entry < 0) (a4 : 4096 ≤ x.entry)
  | f5 (hf : rightR x z = false) (a1 : ¬ x.no < 0) (a2 : ¬ 1048576 < x.no) (a3 : ¬ x.entry < 0) (a4 : ¬ 4096 ≤ x.entry) (a5 : x.at_ < 0)
  | f6 (hf : rightR x z = false) (a1 : ¬ x.no < 0) (a2 : ¬ 1048576 < x.no) (a3 : ¬ x.entry < 0) (a4 : ¬ 4096 ≤ x.entry) (a5 : ¬ x.at_ < 0) (a6 : 2097152 ≤ x.at_)
  | f7 (hf : rightR x z = false) (a1 : ¬ x.no < 0) (a2 : ¬ 1048576 < x.no) (a3 : ¬ x.entry < 0) (a4 : ¬ 4096 ≤ x.entry) (a5 : ¬ x.at_ < 0) (a6 : ¬ 2097152 ≤ x.at_) (a7 : okR x.score = false)
  | f8 (hf : rightR x z = false) (a1 : ¬ x.no < 0) (a2 : ¬ 1048576 < x.no) (a3 : ¬ x.entry < 0) (a4 : ¬ 4096 ≤ x.entry) (a5 : ¬ x.at_ < 0) (a6 : ¬ 2097152 ≤ x.at_) (a7 : okR x.score = true) (d : 0 < n) (e : x.no ≤ q)
  | o1 (hf : rightR x z = true) (a1 : ¬ x.no < 0) (a2 : ¬ 1048576 < x.no) (a3 : ¬ x.entry < 0) (a4 : ¬ 4096 ≤ x.entry) (a5 : ¬ x.at_ < 0) (a6 : ¬ 2097152 ≤ x.at_) (a7 : okR x.score = true) (d : ¬ 0 < n)
  | o2 (hf : rightR x z = true) (a1 : ¬ x.no < 0) (a2 : ¬ 1048576 < x.no) (a3 : ¬ x.entry < 0) (a4 : ¬ 4096 ≤ x.entry) (a5 : ¬ x.at_ < 0) (a6 : ¬ 2097152 ≤ x.at_) (a7 : okR x.score = true) (d : 0 < n) (e : ¬ x.no ≤ q)
theorem LineR.of {x : Rec} {z q : Int} {n : Nat} (h0 : -1 ≤ z) (hz : ¬ 0 < n → z = -1) (hq : 0 < n → z = q) : LineR x z n q := by
  have hiff : rightR x z = true ↔ (z + 1 ≤ x.no ∧ x.no ≤ 1048576) ∧ (0 ≤ x.entry ∧ x.entry ≤ 4095) ∧ (0 ≤ x.at_ ∧ x.at_ ≤ 2097151) ∧ okR x.score = true := by
    simp only [rightR, btw, Bool.and_eq_true, decide_eq_true_eq]
  have no : ¬ ((z + 1 ≤ x.no ∧ x.no ≤ 1048576) ∧ (0 ≤ x.entry ∧ x.entry ≤ 4095) ∧ (0 ≤ x.at_ ∧ x.at_ ≤ 2097151) ∧ okR x.score = true) → rightR x z = false := fun h => by
    cases e : rightR x z with
    | false => rfl
    | true => exact absurd (hiff.1 e) h
  by_cases a1 : x.no < 0
  · exact .f1 (no fun h => by have := h.1; omega) a1
  by_cases a2 : 1048576 < x.no
  · exact .f2 (no fun h => by have := h.1; omega) a1 a2
  by_cases a3 : x.entry < 0
  · exact .f3 (no fun h => by have := h.2.1; omega) a1 a2 a3
  by_cases a4 : 4096 ≤ x.entry
  · exact .f4 (no fun h => by have := h.2.1; omega) a1 a2 a3 a4
  by_cases a5 : x.at_ < 0
  · exact .f5 (no fun h => by have := h.2.2.1; omega) a1 a2 a3 a4 a5
  by_cases a6 : 2097152 ≤ x.at_
  · exact .f6 (no fun h => by have := h.2.2.1; omega) a1 a2 a3 a4 a5 a6
  cases a7 : okR x.score with
  | false => exact .f7 (no fun h => by have := h.2.2.2; rw [a7] at this; cases this) a1 a2 a3 a4 a5 a6 a7
  | true =>
    by_cases d : 0 < n
    · have := hq d
      by_cases e : x.no ≤ q
      · exact .f8 (no fun h => by have := h.1; omega) a1 a2 a3 a4 a5 a6 a7 d e
      · exact .o2 (hiff.2 ⟨⟨by omega, by omega⟩, ⟨by omega, by omega⟩, ⟨by omega, by omega⟩, a7⟩) a1 a2 a3 a4 a5 a6 a7 d e
    · have := hz d
      exact .o1 (hiff.2 ⟨⟨by omega, by omega⟩, ⟨by omega, by omega⟩, ⟨by omega, by omega⟩, a7⟩) a1 a2 a3 a4 a5 a6 a7 d
end Go.Proofs.Ytgjgcflgjpigpaa
