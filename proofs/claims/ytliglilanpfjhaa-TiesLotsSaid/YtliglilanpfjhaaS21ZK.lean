/- Small inputs; the law's right; small functions. -/
import Derived.Test.YtliglilanpfjhaaS21ZJ
import Derived.Test.YtliglilanpfjhaaLVf
namespace Go.Proofs.Ytliglilanpfjhaa
open Go.Pv
set_option maxRecDepth 100000
set_option maxHeartbeats 8000000
def fewR (r : Rw) : Bool := fewB r.L1 4 && fewB r.L2 4
def fewY (x : Ky) : Bool := (decide (x.totals.length ≤ 10) && decide (x.prev.length ≤ 10)) && (fewR x.score && (x.totals.all fewR && x.prev.all fewR))
def fewK (l : List Ke) (L : List Ky) : Bool := (decide (l.length ≤ 40) && decide (L.length ≤ 12)) && L.all fewY
theorem fewR_spec (r : Rw) (st : Store) : Rets P F.podiumref10_Few [r.pv, .int 4] st (.bool (fewR r)) := few10_spec r.s1 false r.s2 false r.L1 r.L2 4 st
theorem fewR_len {r : Rw} (h : fewR r = true) : r.Len := by
  simp only [fewR, fewB, Bool.and_eq_true, Bool.or_eq_true, decide_eq_true_eq] at h
  exact ⟨by omega, by omega⟩
theorem fewY_len {x : Ky} (h : fewY x = true) : x.Len := by
  simp only [fewY, Bool.and_eq_true, decide_eq_true_eq, List.all_eq_true] at h
  exact ⟨fewR_len h.2.1, fun r hr => fewR_len (h.2.2.1 r hr), fun r hr => fewR_len (h.2.2.2 r hr), by omega, by omega⟩
theorem few21K_spec (l : List Ke) (t : Bool) (L : List Ky) (st : Store) : Rets P F.podiumref21_Few [Ke.lst l, .list t (Ky.row L) L.length] st (.bool (fewK l L)) := by
  have kW : Hid (fewK l L = ((decide (l.length ≤ 40) && decide (L.length ≤ 12)) && L.all fewY)) := ⟨rfl⟩
  obtain ⟨w, hw⟩ : ∃ w, w = fewK l L := ⟨_, rfl⟩
  rw [← hw] at kW ⊢
  clear hw
  refine H.podiumref21_Few.view hmix rfl rfl ?_
  by_cases h1 : l.length ≤ 40
  case neg =>
    have e : w = false := by rw [kW.out, decide_eq_false h1]; rfl
    subst e
    have k1 : (40 : Int) < l.length := by omega
    clear kW
    repeat' (simp -dsimp -implicitDefEqProofs [*])
    exact RetView.drop (st' := st) (by repeat' (first | exact StLe.refl _ | (refine StLe_cons (by simp [*]; done) ?_) | (refine StLe_fresh (by simp [*]; done) ?_))) ⟨rfl, rfl⟩
  by_cases h2 : L.length ≤ 12
  case neg =>
    have e : w = false := by rw [kW.out, decide_eq_false h2]; simp
    subst e
    have k1 : ¬ (40 : Int) < l.length := by omega
    have k2 : (12 : Int) < L.length := by omega
    clear kW
    repeat' (simp -dsimp -implicitDefEqProofs [*])
    exact RetView.drop (st' := st) (by repeat' (first | exact StLe.refl _ | (refine StLe_cons (by simp [*]; done) ?_) | (refine StLe_fresh (by simp [*]; done) ?_))) ⟨rfl, rfl⟩
  have kW : Hid (w = L.all fewY) := ⟨by rw [kW.out, decide_eq_true h1, decide_eq_true h2]; rfl⟩
  have k1 : ¬ (40 : Int) < l.length := by omega
  have k2 : ¬ (12 : Int) < L.length := by omega
  clear h1
  repeat' (simp -dsimp -implicitDefEqProofs [*])
  refine xloop_for (fun n : Nat => [(1, .list t (Ky.row L) L.length), (5, .int n)]) (fun _ => st) (fun n => n ≤ L.length ∧ Hid (∀ j (h : j < L.length), j < n → fewY L[j] = true)) (fun n => L.length - n) 0 ⟨Nat.zero_le _, ⟨fun j _ h => absurd h (by omega)⟩⟩ (by simp) (.refl _) ?_
  rintro n ⟨hn, hI⟩
  clear k1 k2
  by_cases hnl : n < L.length
  case neg =>
    have e : n = L.length := by omega
    subst e
    have kF : w = true := by
      rw [kW.out, List.all_eq_true]
      intro k hk
      obtain ⟨j, hj, rfl⟩ := List.mem_iff_getElem.1 hk
      exact hI.out j hj hj
    subst kF
    clear kW hI
    repeat' (simp -dsimp -implicitDefEqProofs [*])
    exact RetView.drop (st' := st) (by repeat' (first | exact StLe.refl _ | (refine StLe_cons (by simp [*]; done) ?_) | (refine StLe_fresh (by simp [*]; done) ?_))) ⟨rfl, rfl⟩
  have ww := wrap_succ (n := n) (by omega)
  have h4 : n * 10 < L.length * 10 := by omega
  have kb : Hid (fewY L[n] = false → w = false) := ⟨fun h => by
    rw [kW.out]
    exact List.all_eq_false.2 ⟨_, List.getElem_mem hnl, by rw [h]; simp⟩⟩
  have kN : Hid (fewY L[n] = true → ∀ j (h : j < L.length), j < n + 1 → fewY L[j] = true) := ⟨fun hp j hj hl => if h : j = n then by subst h; exact hp else hI.out j hj (by omega)⟩
  have g1 := Ky.row_sub L n hnl
  obtain ⟨x, hx⟩ : ∃ x, x = L[n] := ⟨_, rfl⟩
  rw [← hx] at kb kN g1
  clear kW hI hx
  have kY : Hid (fewY x = ((decide (x.totals.length ≤ 10) && decide (x.prev.length ≤ 10)) && (fewR x.score && (x.totals.all fewR && x.prev.all fewR)))) := ⟨rfl⟩
  obtain ⟨q, hq⟩ : ∃ q, q = fewY x := ⟨_, rfl⟩
  rw [← hq] at kY kb kN
  clear hq
  have c0 := fewR_spec x.score
  by_cases h5 : x.totals.length ≤ 10
  case neg =>
    have e := kb.out (by rw [kY.out, decide_eq_false h5]; rfl)
    subst e
    have k5 : (10 : Int) < x.totals.length := by omega
    clear kb kN kY
    repeat' (first 
     | (with_reducible refine Fresh.intro fun b hb => ?_) <;> (try simp -dsimp -implicitDefEqProofs [*] at hb)
     | (simp -dsimp -implicitDefEqProofs [-Ky.row_sub, *]))
    exact RetView.drop (st' := st) (by repeat' (first | exact StLe.refl _ | (refine StLe_cons (by simp [*]; done) ?_) | (refine StLe_fresh (by simp [*]; done) ?_))) ⟨rfl, rfl⟩
  have k5 : ¬ (10 : Int) < x.totals.length := by omega
  by_cases h6 : x.prev.length ≤ 10
  case neg =>
    have e := kb.out (by rw [kY.out, decide_eq_false h6]; simp)
    subst e
    have k6 : (10 : Int) < x.prev.length := by omega
    clear kb kN kY
    repeat' (first 
     | (with_reducible refine Fresh.intro fun b hb => ?_) <;> (try simp -dsimp -implicitDefEqProofs [*] at hb)
     | (simp -dsimp -implicitDefEqProofs [-Ky.row_sub, *]))
    exact RetView.drop (st' := st) (by repeat' (first | exact StLe.refl _ | (refine StLe_cons (by simp [*]; done) ?_) | (refine StLe_fresh (by simp [*]; done) ?_))) ⟨rfl, rfl⟩
  have k6 : ¬ (10 : Int) < x.prev.length := by omega
  have kY : Hid (q = (fewR x.score && (x.totals.all fewR && x.prev.all fewR))) := ⟨by rw [kY.out, decide_eq_true h5, decide_eq_true h6]; rfl⟩
  cases h7 : fewR x.score with
  | false =>
    have e := kb.out (by rw [kY.out, h7]; rfl)
    subst e
    rw [h7] at c0
    clear kb kN kY h7
    repeat' (first 
     | (with_reducible refine Fresh.intro fun b hb => ?_) <;> (try simp -dsimp -implicitDefEqProofs [*] at hb)
     | (with_reducible refine Rets.xcall (c0 _) ?_)
     | (simp -dsimp -implicitDefEqProofs [-Ky.row_sub, *]))
    exact RetView.drop (st' := st) (by repeat' (first | exact StLe.refl _ | (refine StLe_cons (by simp [*]; done) ?_) | (refine StLe_fresh (by simp [*]; done) ?_))) ⟨rfl, rfl⟩
  | true =>
    have kY : Hid (q = (x.totals.all fewR && x.prev.all fewR)) := ⟨by rw [kY.out, h7]; rfl⟩
    rw [h7] at c0
    clear h7
    repeat' (first 
     | (with_reducible refine Fresh.intro fun b hb => ?_) <;> (try simp -dsimp -implicitDefEqProofs [*] at hb)
     | (with_reducible refine Rets.xcall (c0 _) ?_)
     | (simp -dsimp -implicitDefEqProofs [-Ky.row_sub, *]))
    clear c0 k5 k6 g1 h4
    have hb : snew st b := by assumption
    refine xloop_for (fun m : Nat => [(1, .list t (Ky.row L) L.length), (5, .int n), (6, .ptr b 0), (7, .int m)]) (fun _ => (b, .arr T.apiKeyed x.enc) :: st) (fun m => m ≤ x.totals.length ∧ Hid (∀ j (h : j < x.totals.length), j < m → fewR x.totals[j] = true)) (fun m => x.totals.length - m) 0 ⟨Nat.zero_le _, ⟨fun j _ h => absurd h (by omega)⟩⟩ (by simp) (.refl _) ?_
    rintro m ⟨hm, hJ⟩
    by_cases hml : m < x.totals.length
    · have wm := wrap_succ (n := m) (by omega)
      have h4 : m * 4 < x.totals.length * 4 := by omega
      have c1 := fewR_spec x.totals[m]
      have kc : fewR x.totals[m] = false → q = false := fun h => by
        rw [kY.out]
        have : x.totals.all fewR = false := List.all_eq_false.2 ⟨_, List.getElem_mem hml, by rw [h]; simp⟩
        rw [this]; rfl
      have kM : Hid (fewR x.totals[m] = true → ∀ j (h : j < x.totals.length), j < m + 1 → fewR x.totals[j] = true) := ⟨fun hp j hj hl => if h : j = m then by subst h; exact hp else hJ.out j hj (by omega)⟩
      clear kY hJ
      cases hg : fewR x.totals[m] with
      | false =>
        have e := kb.out (kc hg)
        subst e
        rw [hg] at c1
        clear kc kM hg kb kN
        repeat' (first 
         | (with_reducible refine Rets.xcall (c1 _) ?_)
         | (simp -dsimp -implicitDefEqProofs [*]))
        exact RetView.drop (st' := st) (by repeat' (first | exact StLe.refl _ | (refine StLe_cons (by simp [*]; done) ?_) | (refine StLe_fresh (by simp [*]; done) ?_))) ⟨rfl, rfl⟩
      | true =>
        have e : Hid _ := ⟨kM.out hg⟩
        rw [hg] at c1
        clear kc kM hg kb kN
        repeat' (first 
         | (with_reducible refine Rets.xcall (c1 _) ?_)
         | (simp -dsimp -implicitDefEqProofs [*]))
        exact Next.intro (m + 1) ⟨by omega, e⟩ (by omega) (by simp) (by repeat' (first | exact StLe.refl _ | (refine StLe_cons (by simp [*]; done) ?_) | (refine StLe_fresh (by simp [*]; done) ?_)))
    · have e : m = x.totals.length := by omega
      subst e
      have kT : x.totals.all fewR = true := List.all_eq_true.2 fun r hr => by
        obtain ⟨j, hj, rfl⟩ := List.mem_iff_getElem.1 hr
        exact hJ.out j hj hj
      have kY : Hid (q = x.prev.all fewR) := ⟨by rw [kY.out, kT]; rfl⟩
      clear kT hJ hm
      repeat' (simp -dsimp -implicitDefEqProofs [*])
      refine xloop_for (fun m : Nat => [(1, .list t (Ky.row L) L.length), (5, .int n), (6, .ptr b 0), (8, .int m)]) (fun _ => (b, .arr T.apiKeyed x.enc) :: st) (fun m => m ≤ x.prev.length ∧ Hid (∀ j (h : j < x.prev.length), j < m → fewR x.prev[j] = true)) (fun m => x.prev.length - m) 0 ⟨Nat.zero_le _, ⟨fun j _ h => absurd h (by omega)⟩⟩ (by simp) (.refl _) ?_
      rintro m ⟨hm, hJ⟩
      by_cases hml : m < x.prev.length
      · have wm := wrap_succ (n := m) (by omega)
        have h4 : m * 4 < x.prev.length * 4 := by omega
        have c1 := fewR_spec x.prev[m]
        have kc : fewR x.prev[m] = false → q = false := fun h => by
          rw [kY.out]
          exact List.all_eq_false.2 ⟨_, List.getElem_mem hml, by rw [h]; simp⟩
        have kM : Hid (fewR x.prev[m] = true → ∀ j (h : j < x.prev.length), j < m + 1 → fewR x.prev[j] = true) := ⟨fun hp j hj hl => if h : j = m then by subst h; exact hp else hJ.out j hj (by omega)⟩
        clear kY hJ
        cases hg : fewR x.prev[m] with
        | false =>
          have e := kb.out (kc hg)
          subst e
          rw [hg] at c1
          clear kc kM hg kb kN
          repeat' (first 
           | (with_reducible refine Rets.xcall (c1 _) ?_)
           | (simp -dsimp -implicitDefEqProofs [*]))
          exact RetView.drop (st' := st) (by repeat' (first | exact StLe.refl _ | (refine StLe_cons (by simp [*]; done) ?_) | (refine StLe_fresh (by simp [*]; done) ?_))) ⟨rfl, rfl⟩
        | true =>
          have e : Hid _ := ⟨kM.out hg⟩
          rw [hg] at c1
          clear kc kM hg kb kN
          repeat' (first 
           | (with_reducible refine Rets.xcall (c1 _) ?_)
           | (simp -dsimp -implicitDefEqProofs [*]))
          exact Next.intro (m + 1) ⟨by omega, e⟩ (by omega) (by simp) (by repeat' (first | exact StLe.refl _ | (refine StLe_cons (by simp [*]; done) ?_) | (refine StLe_fresh (by simp [*]; done) ?_)))
      · have e : m = x.prev.length := by omega
        subst e
        have kT : q = true := by
          rw [kY.out]
          exact List.all_eq_true.2 fun r hr => by
            obtain ⟨j, hj, rfl⟩ := List.mem_iff_getElem.1 hr
            exact hJ.out j hj hj
        have e : Hid _ := ⟨kN.out kT⟩
        clear kT hJ hm kb kN kY
        repeat' (simp -dsimp -implicitDefEqProofs [*])
        exact Next.intro (n + 1) ⟨by omega, e⟩ (by omega) (by simp) (by repeat' (first | exact StLe.refl _ | (refine StLe_cons (by simp [*]; done) ?_) | (refine StLe_fresh (by simp [*]; done) ?_)))
/-- Keys are plain, entries right for them, few. -/
def rightL (l : List Ke) (L : List Ky) : Bool := L.all (fun x => !wrongK l x) && (plainK l && fewK l L)
theorem lawRight_spec (l : List Ke) (hl : l.length ≤ 9223372036854775807) (t : Bool) (L : List Ky) (hL : L.length ≤ 9223372036854775807) (hw : ∀ x ∈ L, Ky.Wide x) (st : Store) : Rets P F.podiumlaw21_right [Ke.lst l, .list t (Ky.row L) L.length] st (.bool (rightL l L)) := by
  have cP := plain21_spec l hl
  have cF := few21K_spec l t L
  have cR := fun x hx => right21_spec l hl x (hw x hx)
  have kW : Hid (rightL l L = (L.all (fun x => !wrongK l x) && (plainK l && fewK l L))) := ⟨rfl⟩
  obtain ⟨p, hp⟩ : ∃ p, p = plainK l := ⟨_, rfl⟩
  obtain ⟨f, hf⟩ : ∃ p, p = fewK l L := ⟨_, rfl⟩
  obtain ⟨w, hww⟩ : ∃ w, w = rightL l L := ⟨_, rfl⟩
  rw [← hp] at cP kW
  rw [← hf] at cF kW
  rw [← hww] at kW ⊢
  clear hp hf hww hw
  refine H.podiumlaw21_right.view hmix rfl rfl ?_
  repeat' (simp -dsimp -implicitDefEqProofs [*])
  refine xloop_for (fun n : Nat => [(0, Ke.lst l), (1, .list t (Ky.row L) L.length), (7, .list t (Ky.row L) L.length), (8, .int L.length), (9, .int n)]) (fun _ => st) (fun n => n ≤ L.length ∧ Hid (∀ j (h : j < L.length), j < n → wrongK l L[j] = false)) (fun n => L.length - n) 0 ⟨Nat.zero_le _, ⟨fun j _ h => absurd h (by omega)⟩⟩ (by simp) (.refl _) ?_
  rintro n ⟨hn, hI⟩
  by_cases hnl : n < L.length
  · have ww := wrap_succ (n := n) (by omega)
    have h4 : n * 10 < L.length * 10 := by omega
    have cR := cR L[n] (List.getElem_mem hnl)
    have kb : Hid (wrongK l L[n] = true → w = false) := ⟨fun h => by
      rw [kW.out]
      have : L.all (fun x => !wrongK l x) = false := List.all_eq_false.2 ⟨_, List.getElem_mem hnl, by rw [h]; simp⟩
      rw [this]; rfl⟩
    have kN : Hid (wrongK l L[n] = false → ∀ j (h : j < L.length), j < n + 1 → wrongK l L[j] = false) := ⟨fun hp j hj hl => if h : j = n then by subst h; exact hp else hI.out j hj (by omega)⟩
    have g1 := Ky.row_sub L n hnl
    obtain ⟨x, hx⟩ : ∃ x, x = L[n] := ⟨_, rfl⟩
    rw [← hx] at kb kN g1 cR
    clear kW hI hx cP cF
    cases hg : wrongK l x with
    | true =>
      have e := kb.out hg
      subst e
      rw [hg] at cR
      clear kb kN hg
      repeat' (first 
       | (with_reducible refine Fresh.intro fun b hb => ?_) <;> (try simp -dsimp -implicitDefEqProofs [*] at hb)
       | (with_reducible refine Rets.xcall (cR _) ?_)
       | (simp -dsimp -implicitDefEqProofs [-Ky.row_sub, *]))
      exact RetView.drop (st' := st) (by repeat' (first | exact StLe.refl _ | (refine StLe_cons (by simp [*]; done) ?_) | (refine StLe_fresh (by simp [*]; done) ?_))) ⟨rfl, rfl⟩
    | false =>
      have e : Hid _ := ⟨kN.out hg⟩
      rw [hg] at cR
      clear kb kN hg
      repeat' (first 
       | (with_reducible refine Fresh.intro fun b hb => ?_) <;> (try simp -dsimp -implicitDefEqProofs [*] at hb)
       | (with_reducible refine Rets.xcall (cR _) ?_)
       | (simp -dsimp -implicitDefEqProofs [-Ky.row_sub, *]))
      exact Next.intro (n + 1) ⟨by omega, e⟩ (by omega) (by simp) (by repeat' (first | exact StLe.refl _ | (refine StLe_cons (by simp [*]; done) ?_) | (refine StLe_fresh (by simp [*]; done) ?_)))
  · have e : n = L.length := by omega
    subst e
    have kT : L.all (fun x => !wrongK l x) = true := List.all_eq_true.2 fun r hr => by
      obtain ⟨j, hj, rfl⟩ := List.mem_iff_getElem.1 hr
      rw [hI.out j hj hj]; rfl
    have kW : w = (p && f) := by rw [kW.out, kT]; rfl
    subst kW
    clear kT hI cR
    cases p <;> cases f
    all_goals
      repeat' (first 
       | (with_reducible refine Rets.xcall (cP _) ?_)
       | (with_reducible refine Rets.xcall (cF _) ?_)
       | (simp -dsimp -implicitDefEqProofs [*]))
      exact .same ⟨rfl, rfl⟩
end Go.Proofs.Ytliglilanpfjhaa
/- Sorting ints by a comparison that goes by keys. -/
namespace Go.Proofs.Ytliglilanpfjhaa
open Go.Pv
set_option maxRecDepth 100000
set_option maxHeartbeats 8000000
namespace SortI
theorem own_getE {l : List Int} {i : Nat} {C : List PV} (h : i < l.length) (h2 : i < (intRow l ++ C).length) : (intRow l ++ C)[i]'h2 = .int l[i] := by
  rw [List.getElem_append_left (by simpa using h)]; simp
theorem own_get {l : List Int} {i : Nat} {C : List PV} (h : i < l.length) : (intRow l ++ C)[i]? = some (.int l[i]) := by
  rw [List.getElem?_append_left (by simpa using h)]; exact intRow_get l i h
theorem own_set {l : List Int} {i : Nat} {v : Int} {C : List PV} (h : i < l.length) : (intRow l ++ C).set i (.int v) = intRow (l.set i v) ++ C := by
  rw [List.set_append_left _ _ (by simpa using h), intRow_set]
abbrev rowO (l : List Int) (C : List PV) : PObj := .arr T.int (intRow l ++ C)
theorem swap2 {l P Q R : List Int} {x y : Int} {i j : Nat} (hl : l = P ++ x :: (Q ++ y :: R)) (hi : P.length = i) (hj : i + 1 + Q.length = j) :
    (∀ h : i < l.length, l[i] = x) ∧ (∀ h : j < l.length, l[j] = y) ∧ (l.set i y).set j x = P ++ y :: (Q ++ x :: R) ∧ (l.set j x).set i y = P ++ y :: (Q ++ x :: R) ∧ i < l.length ∧ j < l.length := by
  subst hl; subst hi; subst hj
  have e2 : P.length + 1 + Q.length - P.length = Q.length + 1 := by omega
  have e3 : ¬ P.length + 1 + Q.length < P.length := by omega
  refine ⟨fun h => by simp, fun h => ?_, ?_, ?_, by simp, by simp; omega⟩
  · rw [List.getElem_append_right (by omega)]
    simp [e2]
  · simp [List.set_append, e2, e3]
  · simp [List.set_append, e2, e3]
theorem cut_at {A : List Int} {i : Nat} (h : i < A.length) : ∃ a, A.drop i = a :: A.drop (i + 1) ∧ A.take (i + 1) = A.take i ++ [a] ∧ a ∈ A := ⟨A[i], List.drop_eq_getElem_cons h, List.take_succ_eq_append_getElem h, List.getElem_mem h⟩
section
variable (key : Int → Int)
def InsI (U R : List Int) (x : Int) (N j : Nat) (l : List Int) : Prop := l.length = N ∧ ∃ P Q, U = P ++ Q ∧ l = P ++ x :: (Q ++ R) ∧ P.length = j ∧ ∀ q ∈ Q, key x < key q
variable {key}
theorem ins_step {U R : List Int} {x : Int} {N j : Nat} {l : List Int} (h : InsI key U R x N j l) (hU : Srtd key U) (hj : 0 < j) : ∃ v l3, v ∈ U ∧ (∀ h : j < l.length, l[j] = x) ∧ (∀ h : j - 1 < l.length, l[j - 1] = v) ∧ (l.set j v).set (j - 1) x = l3 ∧ l3.length = N ∧ j < N ∧
    (key x < key v → InsI key U R x N (j - 1) l3) ∧ (key v ≤ key x → l = srt key (U ++ [x]) ++ R) := by
  obtain ⟨hN, P, Q, h1, h2, h3, h4⟩ := h
  rcases List.eq_nil_or_concat P with rfl | ⟨P', v, rfl⟩
  · simp at h3; omega
  rw [List.concat_eq_append] at *
  simp at h3
  obtain ⟨e1, e2, e3, e4, e5, e6⟩ := swap2 (l := l) (P := P') (x := v) (Q := []) (y := x) (R := Q ++ R) (i := j - 1) (j := j) (by rw [h2]; simp) (by omega) (by simp; omega)
  have hlen : ((l.set j v).set (j - 1) x).length = N := by simp [hN]
  refine ⟨v, _, by rw [h1]; simp, e2, e1, rfl, hlen, by omega, fun hv => ⟨hlen, P', v :: Q, by rw [h1]; simp, by rw [e4]; simp, by omega, fun q hq => ?_⟩, fun hv => ?_⟩
  · rcases List.mem_cons.1 hq with rfl | hq
    · exact hv
    · exact h4 q hq
  · rw [h2, h1, ← srt_snoc (h1 ▸ hU) (fun p hp => ?_) h4]
    · simp
    · rcases List.mem_append.1 hp with hp | hp
      · have := (h1 ▸ hU : Srtd key (P' ++ [v] ++ Q)).left.le hp (b := v) (by simp)
        omega
      · simp at hp; subst hp; exact hv
theorem ins_end {U R : List Int} {x : Int} {N : Nat} {l : List Int} (h : InsI key U R x N 0 l) (hU : Srtd key U) : l = srt key (U ++ [x]) ++ R := by
  obtain ⟨hN, P, Q, h1, h2, h3, h4⟩ := h
  have : P = [] := List.length_eq_zero_iff.1 (by omega)
  subst this
  rw [h2, h1, ← srt_snoc (h1 ▸ hU) (by simp) h4]
  simp
theorem srt_more {T : List Int} {x : Int} : srt key (srt key T ++ [x]) = srt key (T ++ [x]) := srt_congr (Stb.app (srt_stb T).symm (.refl _))
end
@[simp] theorem cmpZ_lt (a b : Int) : cmpZ a b < 0 ↔ a < b := by unfold cmpZ; split <;> (try split) <;> omega
theorem insertion_spec {key : Int → Int} {g : FuncId} {p : PV} {L : List Int} (hc : ∀ x ∈ L, ∀ y ∈ L, ∀ st, Rets P g [p, .int x, .int y] st (.int (cmpZ (key x) (key y)))) {C : List PV} {b cap N : Nat} (hN : L.length = N) (hN2 : N ≤ 100000) (st : Store) :
    Does P F.slices_insertionSortCmpFunc__int [.own b 0 N cap, .int 0, .int (N : Nat), .func (.func g) [p] []] ((b, rowO L C) :: st) (.tuple []) ((b, rowO (srt key L) C) :: st) := by
  have h0 : Hid (L = srt key (L.take 1) ++ L.drop 1) := by
    constructor
    rcases L with _ | ⟨x, L⟩
    · simp [srt]
    · simp [srt, ordIns]
  refine H.slices_insertionSortCmpFunc__int.view hmix rfl rfl ?_
  repeat' (simp -dsimp -implicitDefEqProofs [*])
  refine xloop_for (fun s : Nat × List Int => [(0, .own b 0 N cap), (1, .int 0), (2, .int (N : Nat)), (3, .func (.func g) [p] []), (8, .int (s.1 : Nat))]) (fun s => (b, rowO s.2 C) :: st)
    (fun s => 1 ≤ s.1 ∧ (s.1 ≤ N ∨ s.1 = 1) ∧ s.2.length = N ∧ Hid (s.2 = srt key (L.take s.1) ++ L.drop s.1)) (fun s => N - s.1) (1, L) ⟨Nat.le_refl _, .inr rfl, hN, h0⟩ (by simp) (by simp) ?_
  clear h0
  rintro ⟨i, l'⟩ ⟨hi1, hi2, hlen', hl'⟩
  simp only at hi1 hi2 hlen' hl'
  by_cases hiz : i < N
  · obtain ⟨x, c1, c2, hxL⟩ := cut_at (A := L) (i := i) (by omega)
    obtain ⟨i2, hi3⟩ : ∃ i2, i2 = i + 1 := ⟨_, rfl⟩
    have hwi : IntKind.i64.wrap ((i : Int) + 1) = (i2 : Int) := by rw [hi3, wrap_succ (by omega)]; omega
    rw [← hi3] at c1 c2
    have hU := srt_srtd (key := key) (L.take i)
    have hUm : ∀ v ∈ srt key (L.take i), v ∈ L := fun v hv => List.mem_of_mem_take (mem_srt.1 hv)
    have hlU : (srt key (L.take i)).length = i := by simp; omega
    have hI : InsI key (srt key (L.take i)) (L.drop i2) x N i l' := ⟨hlen', srt key (L.take i), [], by simp, by rw [hl'.out, c1]; simp, by omega, by simp⟩
    have hfin : ∀ l3 : List Int, l3 = srt key (srt key (L.take i) ++ [x]) ++ L.drop i2 → l3 = srt key (L.take i2) ++ L.drop i2 := fun l3 h => by rw [h, srt_more, c2]
    generalize srt key (L.take i) = U at hI hfin hU hUm
    have hii : i < i2 ∧ i2 ≤ N ∧ 1 ≤ i2 ∧ 0 < i := by omega
    have hcx := hc x hxL
    have kc : Hid (∀ v ∈ U, ∀ st, Rets P g [p, .int x, .int v] st (.int (cmpZ (key x) (key v)))) := ⟨fun v hv => hcx v (hUm v hv)⟩
    have kF : Hid _ := ⟨hfin⟩
    have kI : Hid _ := ⟨hI⟩
    have kU : Hid _ := ⟨hU⟩
    have kC : Hid _ := ⟨hc⟩
    clear hl' c1 c2 hi3 hlU hi2 hcx hUm hxL hc hfin hI hU
    repeat' (simp -dsimp -implicitDefEqProofs [*])
    refine xloop_for (fun s : Nat × List Int => [(0, .own b 0 N cap), (1, .int 0), (2, .int (N : Nat)), (3, .func (.func g) [p] []), (8, .int (i : Nat)), (9, .int (s.1 : Nat))]) (fun s => (b, rowO s.2 C) :: st)
      (fun s => Hid (InsI key U (L.drop i2) x N s.1 s.2)) (fun s => s.1) (i, l') kI (by simp) (by simp) ?_
    clear kI hlen'
    rintro ⟨j, l''⟩ hJ
    simp only at hJ
    have hlen2 := hJ.out.1
    by_cases hj : 0 < j
    · obtain ⟨v, l3, s0, s1, s2, s3, s4, s5, s6, s7⟩ := ins_step hJ.out kU.out hj
      have cc := kc.out v s0
      obtain ⟨q, hq⟩ : ∃ q, q = j - 1 := ⟨_, rfl⟩
      have hwq : IntKind.i64.wrap ((j : Int) - 1) = (q : Int) := by rw [wrap_in (by omega) (by omega)]; omega
      rw [← hq] at s2 s3 s6
      have hqj : q < j ∧ q < N := by omega
      have t1 : ∀ h, (intRow l'' ++ C)[j]'h = .int x := fun h => by rw [own_getE (by omega), s1 (by omega)]
      have t2 : ∀ h, (intRow l'' ++ C)[q]'h = .int v := fun h => by rw [own_getE (by omega), s2 (by omega)]
      have t3 : (intRow l'' ++ C).set j (.int v) = intRow (l''.set j v) ++ C := own_set (by omega)
      have t4 : (intRow (l''.set j v) ++ C).set q (.int x) = intRow l3 ++ C := by rw [own_set (by simp; omega), s3]
      have tl : (intRow l'' ++ C).length = N + C.length := by simp [hlen2]
      have tl2 : (intRow (l''.set j v) ++ C).length = N + C.length := by simp [hlen2]
      have g1 : j < N + C.length ∧ q < N + C.length := by omega
      obtain ⟨B0, hB0⟩ : ∃ B, B = intRow l'' ++ C := ⟨_, rfl⟩
      obtain ⟨B1, hB1⟩ : ∃ B, B = intRow (l''.set j v) ++ C := ⟨_, rfl⟩
      have kS6 : Hid _ := ⟨s6⟩
      have kS7 : Hid (key v ≤ key x → l'' = srt key (L.take i2) ++ L.drop i2) := ⟨fun h => kF.out _ (s7 h)⟩
      clear hq hJ s0 s1 s2 s3 s6 s7 kc kU
      by_cases hxv : key x < key v
      · have s6 : Hid _ := ⟨kS6.out hxv⟩
        have ec : cmpZ (key x) (key v) = -1 := by unfold cmpZ; rw [if_pos hxv]
        rw [ec] at cc
        rw [← hB0] at t1 t2 t3 tl
        rw [← hB1] at t3 t4 tl2
        have eB : rowO l'' C = .arr T.int B0 := by rw [hB0]
        clear kS6 kS7 kF hxv ec hB0 hB1
        simp only [eB]
        clear eB
        repeat' (simp -dsimp -implicitDefEqProofs [*])
        refine DrawLate.intro [] ?_
        repeat' (first 
         | (with_reducible refine Rets.xcall (cc _) ?_)
         | (simp -dsimp -implicitDefEqProofs [*]))
        refine DrawLate.intro [b] ?_
        repeat' (first 
         | ((with_reducible refine and_keep ?_ fun hk => ?_); omega)
         | (simp -dsimp -implicitDefEqProofs [*]))
        exact Next.intro (q, l3) s6 (by simp only; omega) (by simp) (by repeat' (first | exact StLe.refl _ | (refine StLe_cons (by simp [*]; done) ?_) | (refine StLe_fresh (by simp [*]; done) ?_)))
      · have s8 : Hid _ := ⟨kS7.out (Int.not_lt.1 hxv)⟩
        have ec : ¬ cmpZ (key x) (key v) < 0 := by rw [cmpZ_lt]; exact hxv
        obtain ⟨cv, hcv⟩ : ∃ c, c = cmpZ (key x) (key v) := ⟨_, rfl⟩
        rw [← hcv] at cc ec
        rw [← hB0] at t1 t2 t3 tl
        have eB : rowO l'' C = .arr T.int B0 := by rw [hB0]
        clear kS6 kS7 kF hxv hcv t3 t4 hB1 tl2
        simp only [eB]
        have keB : Hid _ := ⟨eB⟩
        clear eB hB0
        repeat' (first 
         | (with_reducible refine Rets.xcall (cc _) ?_)
         | (with_reducible refine DrawLate.intro [] ?_)
         | (simp -dsimp -implicitDefEqProofs [*]))
        exact Next.intro (i2, l'') ⟨hii.2.2.1, .inl hii.2.1, hlen2, s8⟩ (by simp only; omega) (by simp) (by simp only [keB.out]; exact .refl _)
    · obtain rfl : j = 0 := by omega
      have s8 : Hid _ := ⟨kF.out _ (ins_end hJ.out kU.out)⟩
      clear kF hJ kc kU kC
      repeat' (first 
       | (with_reducible refine DrawLate.intro [] ?_)
       | (simp -dsimp -implicitDefEqProofs [*]))
      exact Next.intro (i2, l'') ⟨hii.2.2.1, .inl hii.2.1, hlen2, s8⟩ (by simp only; omega) (by simp) (by repeat' (first | exact StLe.refl _ | (refine StLe_cons (by simp [*]; done) ?_) | (refine StLe_fresh (by simp [*]; done) ?_)))
  · have e : l' = srt key L := by
      rw [hl'.out, List.take_of_length_le (by omega), List.drop_of_length_le (by omega)]; simp
    subst e
    clear hl' hc
    repeat' (simp -dsimp -implicitDefEqProofs [*])
    exact .drop (StLe.refl _) ⟨rfl, rfl⟩
theorem stable_spec {key : Int → Int} {g : FuncId} {p : PV} {L : List Int} (hc : ∀ x ∈ L, ∀ y ∈ L, ∀ st, Rets P g [p, .int x, .int y] st (.int (cmpZ (key x) (key y)))) {C : List PV} {b cap N : Nat} (hN : L.length = N) (hN2 : N < 20) (st : Store) :
    Does P F.slices_stableCmpFunc__int [.own b 0 N cap, .int (N : Nat), .func (.func g) [p] []] ((b, rowO L C) :: st) (.tuple []) ((b, rowO (srt key L) C) :: st) := by
  have hs := insertion_spec hc (C := C) (b := b) (cap := cap) hN (by omega) st
  clear hc
  refine H.slices_stableCmpFunc__int.view hmix rfl rfl ?_
  repeat' (simp -dsimp -implicitDefEqProofs [*])
  refine xloop_for (fun _ : Unit => [(0, .own b 0 N cap), (1, .int (N : Nat)), (2, .func (.func g) [p] []), (6, .int 20), (7, .int (0 : Nat)), (8, .int 20)]) (fun _ => (b, rowO L C) :: st) (fun _ => True) (fun _ => 0) () trivial (by simp) (by simp) ?_
  rintro - -
  repeat' (first 
   | (with_reducible refine Does.xcall (hs) ?_)
   | (with_reducible refine And.intro (fun h => ?_) (fun h => ?_)) <;> (try (exfalso; omega))
   | (simp -dsimp -implicitDefEqProofs [*]))
  refine xloop_for (fun _ : Unit => [(1, .int (N : Nat)), (6, .int 20)]) (fun _ => (b, rowO (srt key L) C) :: st) (fun _ => True) (fun _ => 0) () trivial (by simp) (by simp) ?_
  rintro - -
  clear hs
  repeat' (first 
   | (with_reducible refine And.intro (fun h => ?_) (fun h => ?_)) <;> (try (exfalso; omega))
   | (simp -dsimp -implicitDefEqProofs [*]))
  exact .drop (StLe.refl _) ⟨rfl, rfl⟩
theorem sort_does {key : Int → Int} {g : FuncId} {p : PV} {L : List Int} (hc : ∀ x ∈ L, ∀ y ∈ L, ∀ st, Rets P g [p, .int x, .int y] st (.int (cmpZ (key x) (key y)))) {C : List PV} {b cap N : Nat} (hN : L.length = N) (hN2 : N < 20) (st : Store) :
    Does P F.slices_SortStableFunc__Lint_int [.own b 0 N cap, .func (.func g) [p] []] ((b, rowO L C) :: st) (.tuple []) ((b, rowO (srt key L) C) :: st) := by
  have hs := stable_spec hc (C := C) (b := b) (cap := cap) hN hN2 st
  clear hc
  refine H.slices_SortStableFunc__Lint_int.view hmix rfl rfl ?_
  repeat' (first 
   | (with_reducible refine Does.xcall (hs) ?_)
   | (simp -dsimp -implicitDefEqProofs [*]))
  exact .drop (StLe.refl _) ⟨rfl, rfl⟩
theorem sort_nil (f : PV) (st : Store) : Rets P F.slices_SortStableFunc__Lint_int [.nil, f] st (.tuple []) := by
  have h1 : ∀ st : Store, Rets P F.slices_insertionSortCmpFunc__int [.nil, .int 0, .int 0, f] st (.tuple []) := fun st => by
    refine H.slices_insertionSortCmpFunc__int.pure hmix rfl rfl ?_
    repeat' (simp -dsimp -implicitDefEqProofs [*])
    refine xloop_for (fun _ : Unit => [(2, .int 0), (8, .int 1)]) (fun _ => st) (fun _ => True) (fun _ => 0) () trivial (by simp) (by simp) ?_
    rintro - -
    repeat' (simp -dsimp -implicitDefEqProofs [*])
  have h2 : ∀ st : Store, Rets P F.slices_stableCmpFunc__int [.nil, .int 0, f] st (.tuple []) := fun st => by
    refine H.slices_stableCmpFunc__int.pure hmix rfl rfl ?_
    repeat' (simp -dsimp -implicitDefEqProofs [*])
    refine xloop_for (fun _ : Unit => [(0, .nil), (1, .int 0), (2, f), (6, .int 20), (7, .int 0), (8, .int 20)]) (fun _ => st) (fun _ => True) (fun _ => 0) () trivial (by simp) (by simp) ?_
    rintro - -
    repeat' (first 
     | (with_reducible refine Rets.xcall (h1 _) ?_)
     | (simp -dsimp -implicitDefEqProofs [*]))
    refine xloop_for (fun _ : Unit => [(1, .int 0), (6, .int 20)]) (fun _ => st) (fun _ => True) (fun _ => 0) () trivial (by simp) (by simp) ?_
    rintro - -
    repeat' (simp -dsimp -implicitDefEqProofs [*])
  refine H.slices_SortStableFunc__Lint_int.pure hmix rfl rfl ?_
  repeat' (first 
   | (with_reducible refine Rets.xcall (h2 _) ?_)
   | (simp -dsimp -implicitDefEqProofs [*]))
end SortI
end Go.Proofs.Ytliglilanpfjhaa
