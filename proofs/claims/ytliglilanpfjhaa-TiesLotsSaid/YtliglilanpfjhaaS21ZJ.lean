/- The reference: which keys are plain, which entries are right. -/
import Derived.Test.YtliglilanpfjhaaS21ZF
namespace Go.Proofs.Ytliglilanpfjhaa
open Go.Pv
set_option maxRecDepth 100000
set_option maxHeartbeats 8000000
/-- Lists of a length that a machine can hold. -/
structure Ky.Wide (x : Ky) : Prop where
  lt : x.totals.length ≤ 9223372036854775807
  lp : x.prev.length ≤ 9223372036854775807
theorem few21_spec (r : Rw) (st : Store) : Rets P F.podiumref21_few [r.pv] st (.bool r.good) := by
  have c : ∀ st, Rets P F.podiumref10_Check [r.pv] st (.int (errB (ratOk r.s1 r.L1 r.s2 r.L2) 100)) := rCheck10_specW r.s1 false r.s2 false r.L1 r.L2
  refine H.podiumref21_few.pure hmix rfl rfl ?_
  unfold Rw.good
  cases h : ratOk r.s1 r.L1 r.s2 r.L2
  · rw [h] at c
    have c : ∀ st, Rets P F.podiumref10_Check [r.pv] st (.int 100) := c
    clear h
    repeat' (first 
     | (with_reducible refine Fresh.intro fun b hb => ?_) <;> (try simp -dsimp -implicitDefEqProofs [*] at hb)
     | (with_reducible refine Rets.xcall (c _) ?_)
     | (simp -dsimp -implicitDefEqProofs [*]))
  · rw [h] at c
    have c : ∀ st, Rets P F.podiumref10_Check [r.pv] st (.int 0) := c
    clear h
    by_cases h1 : r.L1.length ≤ 1024
    · by_cases h2 : r.L2.length ≤ 1024
      · have k1 : (r.L1.length : Int) ≤ 1024 := by omega
        have k2 : (r.L2.length : Int) ≤ 1024 := by omega
        repeat' (first 
         | (with_reducible refine Fresh.intro fun b hb => ?_) <;> (try simp -dsimp -implicitDefEqProofs [*] at hb)
         | (with_reducible refine Rets.xcall (c _) ?_)
         | (simp -dsimp -implicitDefEqProofs [*]))
      · have k1 : (r.L1.length : Int) ≤ 1024 := by omega
        have k2 : ¬ (r.L2.length : Int) ≤ 1024 := by omega
        repeat' (first 
         | (with_reducible refine Fresh.intro fun b hb => ?_) <;> (try simp -dsimp -implicitDefEqProofs [*] at hb)
         | (with_reducible refine Rets.xcall (c _) ?_)
         | (simp -dsimp -implicitDefEqProofs [*]))
    · have k1 : ¬ (r.L1.length : Int) ≤ 1024 := by omega
      repeat' (first 
       | (with_reducible refine Fresh.intro fun b hb => ?_) <;> (try simp -dsimp -implicitDefEqProofs [*] at hb)
       | (with_reducible refine Rets.xcall (c _) ?_)
       | (simp -dsimp -implicitDefEqProofs [*]))
def plainK (l : List Ke) : Bool := decide ((okKeys l).length = l.length) && decide (l.length ≤ 32)
theorem okKeys_all {l : List Ke} : okKeys l = l ↔ ∀ k ∈ l, kOk k.kind = true := by
  constructor
  · intro h k hk
    rw [← h] at hk
    exact okKeys_keys l k hk
  · intro h
    unfold okKeys
    induction l with
    | nil => rfl
    | cons y l ih =>
      rw [List.takeWhile_cons, if_pos (h y (by simp)), ih fun k hk => h k (by simp [hk])]
theorem okKeys_len {l : List Ke} : (okKeys l).length = l.length ↔ okKeys l = l := by
  constructor
  · intro h
    exact (List.takeWhile_sublist _).eq_of_length h
  · intro h; rw [h]
theorem plain21_spec (l : List Ke) (hl : l.length ≤ 9223372036854775807) (st : Store) : Rets P F.podiumref21_Plain [Ke.lst l] st (.bool (plainK l)) := by
  refine H.podiumref21_Plain.view hmix rfl rfl ?_
  have kP : Hid (∀ j (h : j < l.length), kOk l[j].kind = false → plainK l = false) := ⟨fun j hj h => by
    unfold plainK
    have : ¬ (okKeys l).length = l.length := fun e => by
      have := okKeys_all.1 (okKeys_len.1 e) l[j] (List.getElem_mem hj)
      rw [h] at this; cases this
    rw [decide_eq_false this]; rfl⟩
  have kQ : Hid ((∀ j (h : j < l.length), kOk l[j].kind = true) → plainK l = decide (l.length ≤ 32)) := ⟨fun h => by
    unfold plainK
    have : (okKeys l).length = l.length := okKeys_len.2 (okKeys_all.2 fun k hk => by
      obtain ⟨j, hj, rfl⟩ := List.mem_iff_getElem.1 hk
      exact h j hj)
    rw [decide_eq_true this]; rfl⟩
  obtain ⟨v, hv⟩ : ∃ v, v = plainK l := ⟨_, rfl⟩
  rw [← hv] at kP kQ ⊢
  clear hv
  repeat' (simp -dsimp -implicitDefEqProofs [*])
  refine xloop_for (fun n : Nat => [(0, Ke.lst l), (3, .int n)]) (fun _ => st) (fun n => n ≤ l.length ∧ Hid (∀ j (h : j < l.length), j < n → kOk l[j].kind = true)) (fun n => l.length - n) 0 ⟨Nat.zero_le _, ⟨fun j _ h => absurd h (by omega)⟩⟩ (by simp) (.refl _) ?_
  rintro n ⟨hn, hI⟩
  by_cases hnl : n < l.length
  · have ww := wrap_succ (n := n) (by omega)
    have h3 : n * 3 < l.length * 3 := by omega
    have hg : ∀ h, (Ke.row l)[n * 3]'h = .int l[n].kind := fun h => by
      have := flat_get Ke.enc 3 Ke.len l n 0 hnl (by omega)
      have h2 : (Ke.row l)[n * 3]? = some (.int l[n].kind) := this
      rw [List.getElem?_eq_getElem h] at h2
      exact Option.some.inj h2
    have kPn := kP.out n hnl
    have kN : Hid (kOk l[n].kind = true → ∀ j (h : j < l.length), j < n + 1 → kOk l[j].kind = true) := ⟨fun hp j hj hl => if h : j = n then by subst h; exact hp else hI.out j hj (by omega)⟩
    obtain ⟨k, hk⟩ : ∃ k, k = l[n].kind := ⟨_, rfl⟩
    rw [← hk] at hg kPn kN
    clear hk kP kQ hI
    cases hok : kOk k with
    | false =>
      have e := kPn hok
      subst e
      simp only [kOk, Bool.or_eq_false_iff, decide_eq_false_iff_not] at hok
      obtain ⟨⟨⟨⟨h1, h2⟩, h3'⟩, h4⟩, h6⟩ := hok
      clear kPn kN
      repeat' (simp -dsimp -implicitDefEqProofs [*])
      exact .same ⟨rfl, rfl⟩
    | true =>
      have e : Hid _ := ⟨kN.out hok⟩
      have hcs := kOk_cases hok
      clear kPn kN hok
      rcases hcs with rfl | rfl | rfl | rfl | rfl
      all_goals
        repeat' (simp -dsimp -implicitDefEqProofs [*])
        exact Next.intro (n + 1) ⟨by omega, e⟩ (by omega) (by simp) (by repeat' (first | exact StLe.refl _ | (refine StLe_cons (by simp [*]; done) ?_) | (refine StLe_fresh (by simp [*]; done) ?_)))
  · have e : n = l.length := by omega
    subst e
    have e := kQ.out fun j hj => hI.out j hj hj
    subst e
    clear kP kQ hI
    have e2 : decide ((l.length : Int) ≤ 32) = decide (l.length ≤ 32) := decide_eq_decide.2 (by omega)
    repeat' (simp -dsimp -implicitDefEqProofs [*])
    exact .same ⟨by simp, rfl⟩
theorem right21_spec (l : List Ke) (hl : l.length ≤ 9223372036854775807) (x : Ky) (hx : x.Wide) (st : Store) : Rets P F.podiumref21_Right [Ke.lst l, x.pv] st (.bool (!wrongK l x)) := by
  have kW : Hid (wrongK l x = (l.any (fun k => !hasK k x) || !(x.score.good && (x.totals.all Rw.good && x.prev.all Rw.good)))) := ⟨rfl⟩
  obtain ⟨w, hw⟩ : ∃ w, w = wrongK l x := ⟨_, rfl⟩
  rw [← hw] at kW ⊢
  clear hw
  have c0 := few21_spec x.score
  have hxt := hx.lt
  have hxp := hx.lp
  clear hx
  refine H.podiumref21_Right.view hmix rfl rfl ?_
  cases h0 : x.score.good with
  | false =>
    rw [h0] at c0 kW
    have e : w = true := by rw [kW.out]; simp
    subst e
    clear kW h0
    repeat' (first 
     | (with_reducible refine Fresh.intro fun b hb => ?_) <;> (try simp -dsimp -implicitDefEqProofs [*] at hb)
     | (with_reducible refine Rets.xcall (c0 _) ?_)
     | (simp -dsimp -implicitDefEqProofs [*]))
    exact RetView.drop (st' := st) (by repeat' (first | exact StLe.refl _ | (refine StLe_cons (by simp [*]; done) ?_) | (refine StLe_fresh (by simp [*]; done) ?_))) ⟨rfl, rfl⟩
  | true =>
    rw [h0] at c0 kW
    clear h0
    repeat' (first 
     | (with_reducible refine Fresh.intro fun b hb => ?_) <;> (try simp -dsimp -implicitDefEqProofs [*] at hb)
     | (with_reducible refine Rets.xcall (c0 _) ?_)
     | (simp -dsimp -implicitDefEqProofs [*]))
    clear c0
    refine xloop_for (fun n : Nat => [(0, Ke.lst l), (3, .ptr b 0), (5, .int n)]) (fun _ => (b, .arr T.apiKeyed x.enc) :: st) (fun n => n ≤ x.totals.length ∧ Hid (∀ j (h : j < x.totals.length), j < n → x.totals[j].good = true)) (fun n => x.totals.length - n) 0 ⟨Nat.zero_le _, ⟨fun j _ h => absurd h (by omega)⟩⟩ (by simp) (.refl _) ?_
    rintro n ⟨hn, hI⟩
    by_cases hnl : n < x.totals.length
    · have ww := wrap_succ (n := n) (by omega)
      have h4 : n * 4 < x.totals.length * 4 := by omega
      have c1 := few21_spec x.totals[n]
      have kb : x.totals[n].good = false → w = true := fun h => by
        rw [kW.out]
        have : x.totals.all Rw.good = false := List.all_eq_false.2 ⟨_, List.getElem_mem hnl, by rw [h]; simp⟩
        rw [this]; simp
      have kN : Hid (x.totals[n].good = true → ∀ j (h : j < x.totals.length), j < n + 1 → x.totals[j].good = true) := ⟨fun hp j hj hl => if h : j = n then by subst h; exact hp else hI.out j hj (by omega)⟩
      clear kW hI
      cases hg : x.totals[n].good with
      | false =>
        have e := kb hg
        subst e
        rw [hg] at c1
        clear kb kN hg
        repeat' (first 
         | (with_reducible refine Rets.xcall (c1 _) ?_)
         | (simp -dsimp -implicitDefEqProofs [*]))
        exact RetView.drop (st' := st) (by repeat' (first | exact StLe.refl _ | (refine StLe_cons (by simp [*]; done) ?_) | (refine StLe_fresh (by simp [*]; done) ?_))) ⟨rfl, rfl⟩
      | true =>
        have e : Hid _ := ⟨kN.out hg⟩
        rw [hg] at c1
        clear kb kN hg
        repeat' (first 
         | (with_reducible refine Rets.xcall (c1 _) ?_)
         | (simp -dsimp -implicitDefEqProofs [*]))
        exact Next.intro (n + 1) ⟨by omega, e⟩ (by omega) (by simp) (by repeat' (first | exact StLe.refl _ | (refine StLe_cons (by simp [*]; done) ?_) | (refine StLe_fresh (by simp [*]; done) ?_)))
    · have e : n = x.totals.length := by omega
      subst e
      have kT : x.totals.all Rw.good = true := List.all_eq_true.2 fun r hr => by
        obtain ⟨j, hj, rfl⟩ := List.mem_iff_getElem.1 hr
        exact hI.out j hj hj
      rw [kT] at kW
      clear kT hI
      repeat' (simp -dsimp -implicitDefEqProofs [*])
      refine xloop_for (fun n : Nat => [(0, Ke.lst l), (3, .ptr b 0), (6, .int n)]) (fun _ => (b, .arr T.apiKeyed x.enc) :: st) (fun n => n ≤ x.prev.length ∧ Hid (∀ j (h : j < x.prev.length), j < n → x.prev[j].good = true)) (fun n => x.prev.length - n) 0 ⟨Nat.zero_le _, ⟨fun j _ h => absurd h (by omega)⟩⟩ (by simp) (.refl _) ?_
      rintro n ⟨hn, hI⟩
      by_cases hnl : n < x.prev.length
      · have ww := wrap_succ (n := n) (by omega)
        have h4 : n * 4 < x.prev.length * 4 := by omega
        have c1 := few21_spec x.prev[n]
        have kb : x.prev[n].good = false → w = true := fun h => by
          rw [kW.out]
          have : x.prev.all Rw.good = false := List.all_eq_false.2 ⟨_, List.getElem_mem hnl, by rw [h]; simp⟩
          rw [this]; simp
        have kN : Hid (x.prev[n].good = true → ∀ j (h : j < x.prev.length), j < n + 1 → x.prev[j].good = true) := ⟨fun hp j hj hl => if h : j = n then by subst h; exact hp else hI.out j hj (by omega)⟩
        clear kW hI
        cases hg : x.prev[n].good with
        | false =>
          have e := kb hg
          subst e
          rw [hg] at c1
          clear kb kN hg
          repeat' (first 
           | (with_reducible refine Rets.xcall (c1 _) ?_)
           | (simp -dsimp -implicitDefEqProofs [*]))
          exact RetView.drop (st' := st) (by repeat' (first | exact StLe.refl _ | (refine StLe_cons (by simp [*]; done) ?_) | (refine StLe_fresh (by simp [*]; done) ?_))) ⟨rfl, rfl⟩
        | true =>
          have e : Hid _ := ⟨kN.out hg⟩
          rw [hg] at c1
          clear kb kN hg
          repeat' (first 
           | (with_reducible refine Rets.xcall (c1 _) ?_)
           | (simp -dsimp -implicitDefEqProofs [*]))
          exact Next.intro (n + 1) ⟨by omega, e⟩ (by omega) (by simp) (by repeat' (first | exact StLe.refl _ | (refine StLe_cons (by simp [*]; done) ?_) | (refine StLe_fresh (by simp [*]; done) ?_)))
      · have e : n = x.prev.length := by omega
        subst e
        have kT : x.prev.all Rw.good = true := List.all_eq_true.2 fun r hr => by
          obtain ⟨j, hj, rfl⟩ := List.mem_iff_getElem.1 hr
          exact hI.out j hj hj
        rw [kT] at kW
        clear kT hI
        have kW : Hid (w = l.any (fun k => !hasK k x)) := ⟨by rw [kW.out]; simp⟩
        repeat' (simp -dsimp -implicitDefEqProofs [*])
        refine xloop_for (fun n : Nat => [(0, Ke.lst l), (3, .ptr b 0), (7, .int n)]) (fun _ => (b, .arr T.apiKeyed x.enc) :: st) (fun n => n ≤ l.length ∧ Hid (∀ j (h : j < l.length), j < n → hasK l[j] x = true)) (fun n => l.length - n) 0 ⟨Nat.zero_le _, ⟨fun j _ h => absurd h (by omega)⟩⟩ (by simp) (.refl _) ?_
        rintro n ⟨hn, hI⟩
        by_cases hnl : n < l.length
        · have ww := wrap_succ (n := n) (by omega)
          have h4 : n * 3 < l.length * 3 := by omega
          have kb : hasK l[n] x = false → w = true := fun h => by
            rw [kW.out]
            exact List.any_eq_true.2 ⟨_, List.getElem_mem hnl, by rw [h]; rfl⟩
          have kN : Hid (hasK l[n] x = true → ∀ j (h : j < l.length), j < n + 1 → hasK l[j] x = true) := ⟨fun hp j hj hl => if h : j = n then by subst h; exact hp else hI.out j hj (by omega)⟩
          have g1 := Ke.row_sub l n hnl
          obtain ⟨k, hk⟩ : ∃ k, k = l[n] := ⟨_, rfl⟩
          rw [← hk] at kb kN g1
          clear kW hI hk
          obtain ⟨u, hu⟩ : ∃ u, u = x.totals.length := ⟨_, rfl⟩
          obtain ⟨v, hv⟩ : ∃ u, u = x.prev.length := ⟨_, rfl⟩
          have kH : Hid (hasK k x = if k.kind = 1 then decide (0 ≤ k.n) && decide (k.n < (u : Int)) else if k.kind = 2 then decide (0 ≤ k.n) && decide (k.n < (v : Int)) else true) := ⟨by rw [hu, hv]; rfl⟩
          obtain ⟨q, hq⟩ : ∃ q, q = hasK k x := ⟨_, rfl⟩
          rw [← hq] at kH kb kN
          clear hq
          cases q with
          | true =>
            have e : Hid _ := ⟨kN.out rfl⟩
            clear kb kN
            by_cases k1 : k.kind = 1
            · have kk := kH.out
              rw [if_pos k1] at kk
              simp only [Bool.true_eq, Bool.and_eq_true, decide_eq_true_eq] at kk
              obtain ⟨q1, q2⟩ := kk
              have q3 : ¬ k.n < 0 := by omega
              have q4 : ¬ (x.totals.length : Int) ≤ k.n := by omega
              clear kH
              repeat' (first 
               | (with_reducible refine Fresh.intro fun b hb => ?_) <;> (try simp -dsimp -implicitDefEqProofs [*] at hb)
               | (simp -dsimp -implicitDefEqProofs [-Ke.row_sub, *]))
              exact Next.intro (n + 1) ⟨by omega, e⟩ (by omega) (by simp) (by repeat' (first | exact StLe.refl _ | (refine StLe_cons (by simp [*]; done) ?_) | (refine StLe_fresh (by simp [*]; done) ?_)))
            · by_cases k2 : k.kind = 2
              · have kk := kH.out
                rw [if_neg k1, if_pos k2] at kk
                simp only [Bool.true_eq, Bool.and_eq_true, decide_eq_true_eq] at kk
                obtain ⟨q1, q2⟩ := kk
                have q3 : ¬ k.n < 0 := by omega
                have q4 : ¬ (x.prev.length : Int) ≤ k.n := by omega
                clear kH
                repeat' (first 
                 | (with_reducible refine Fresh.intro fun b hb => ?_) <;> (try simp -dsimp -implicitDefEqProofs [*] at hb)
                 | (simp -dsimp -implicitDefEqProofs [-Ke.row_sub, *]))
                exact Next.intro (n + 1) ⟨by omega, e⟩ (by omega) (by simp) (by repeat' (first | exact StLe.refl _ | (refine StLe_cons (by simp [*]; done) ?_) | (refine StLe_fresh (by simp [*]; done) ?_)))
              · clear kH
                repeat' (first 
                 | (with_reducible refine Fresh.intro fun b hb => ?_) <;> (try simp -dsimp -implicitDefEqProofs [*] at hb)
                 | (simp -dsimp -implicitDefEqProofs [-Ke.row_sub, *]))
                exact Next.intro (n + 1) ⟨by omega, e⟩ (by omega) (by simp) (by repeat' (first | exact StLe.refl _ | (refine StLe_cons (by simp [*]; done) ?_) | (refine StLe_fresh (by simp [*]; done) ?_)))
          | false =>
            have e := kb rfl
            subst e
            clear kb kN
            by_cases k1 : k.kind = 1
            · have kk := kH.out
              rw [if_pos k1] at kk
              by_cases q3 : k.n < 0
              · clear kH kk
                repeat' (first 
                 | (with_reducible refine Fresh.intro fun b hb => ?_) <;> (try simp -dsimp -implicitDefEqProofs [*] at hb)
                 | (simp -dsimp -implicitDefEqProofs [-Ke.row_sub, *]))
                exact RetView.drop (st' := st) (by repeat' (first | exact StLe.refl _ | (refine StLe_cons (by simp [*]; done) ?_) | (refine StLe_fresh (by simp [*]; done) ?_))) ⟨rfl, rfl⟩
              · have q4 : (x.totals.length : Int) ≤ k.n := by
                  have q1 : decide (0 ≤ k.n) = true := decide_eq_true (by omega)
                  rw [q1] at kk
                  simp only [Bool.true_and, Bool.false_eq, decide_eq_false_iff_not] at kk
                  omega
                clear kH kk
                repeat' (first 
                 | (with_reducible refine Fresh.intro fun b hb => ?_) <;> (try simp -dsimp -implicitDefEqProofs [*] at hb)
                 | (simp -dsimp -implicitDefEqProofs [-Ke.row_sub, *]))
                exact RetView.drop (st' := st) (by repeat' (first | exact StLe.refl _ | (refine StLe_cons (by simp [*]; done) ?_) | (refine StLe_fresh (by simp [*]; done) ?_))) ⟨rfl, rfl⟩
            · by_cases k2 : k.kind = 2
              · have kk := kH.out
                rw [if_neg k1, if_pos k2] at kk
                by_cases q3 : k.n < 0
                · clear kH kk
                  repeat' (first 
                   | (with_reducible refine Fresh.intro fun b hb => ?_) <;> (try simp -dsimp -implicitDefEqProofs [*] at hb)
                   | (simp -dsimp -implicitDefEqProofs [-Ke.row_sub, *]))
                  exact RetView.drop (st' := st) (by repeat' (first | exact StLe.refl _ | (refine StLe_cons (by simp [*]; done) ?_) | (refine StLe_fresh (by simp [*]; done) ?_))) ⟨rfl, rfl⟩
                · have q4 : (x.prev.length : Int) ≤ k.n := by
                    have q1 : decide (0 ≤ k.n) = true := decide_eq_true (by omega)
                    rw [q1] at kk
                    simp only [Bool.true_and, Bool.false_eq, decide_eq_false_iff_not] at kk
                    omega
                  clear kH kk
                  repeat' (first 
                   | (with_reducible refine Fresh.intro fun b hb => ?_) <;> (try simp -dsimp -implicitDefEqProofs [*] at hb)
                   | (simp -dsimp -implicitDefEqProofs [-Ke.row_sub, *]))
                  exact RetView.drop (st' := st) (by repeat' (first | exact StLe.refl _ | (refine StLe_cons (by simp [*]; done) ?_) | (refine StLe_fresh (by simp [*]; done) ?_))) ⟨rfl, rfl⟩
              · have kk := kH.out
                rw [if_neg k1, if_neg k2] at kk
                cases kk
        · have e : n = l.length := by omega
          subst e
          have kF : w = false := by
            rw [kW.out, List.any_eq_false]
            intro k hk
            obtain ⟨j, hj, rfl⟩ := List.mem_iff_getElem.1 hk
            rw [hI.out j hj hj]; simp
          subst kF
          clear kW hI
          repeat' (simp -dsimp -implicitDefEqProofs [*])
          exact RetView.drop (st' := st) (by repeat' (first | exact StLe.refl _ | (refine StLe_cons (by simp [*]; done) ?_) | (refine StLe_fresh (by simp [*]; done) ?_))) ⟨rfl, rfl⟩
end Go.Proofs.Ytliglilanpfjhaa
