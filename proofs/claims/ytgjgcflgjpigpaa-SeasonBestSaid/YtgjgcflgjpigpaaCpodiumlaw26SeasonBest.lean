/- The code of one function. -/
import Derived.Test.YtgjgcflgjpigpaaCode
import Derived.Test.YtgjgcflgjpigpaaS26ZN
import Derived.Test.YtgjgcflgjpigpaaLBw
set_option maxRecDepth 100000
namespace Go.Proofs.Ytgjgcflgjpigpaa
open Go.Pv
/-- podium/podiumlaw26.SeasonBest -/
noncomputable def C.podiumlaw26_SeasonBest : MFunc := ⟨111, 2, [.tmp 4],
  (.seq (.region [
    ⟨(some 4), none, .val (.mv (.const (.bool false)))⟩] [])
  (.seq (.seq (.region [
    ⟨(some 20), none, .call (.const (.func (.func F.podiumlaw26_sane) [] [])) []⟩,
    ⟨(some 21), none, .val (.un .not (.tmp 20))⟩] [20])
  (.cond (.tmp 21)
  (.seq (.region [
    ⟨(some 4), none, .val (.mv (.const (.bool false)))⟩] [])
  .ret)
  .skip))
  (.seq (.seq (.region [
    ⟨(some 22), none, .val (.mv (.tmp 0))⟩,
    ⟨(some 23), none, .val (.len (.tmp 22))⟩,
    ⟨(some 24), none, .val (.bin .gtr T.int (.tmp 23) (.const (.int 20)))⟩] [22, 23])
  (.cond (.tmp 24)
  (.seq (.region [
    ⟨(some 4), none, .val (.mv (.const (.bool true)))⟩] [])
  .ret)
  .skip))
  (.seq (.seq (.region [
    ⟨(some 25), none, .val (.mv (.tmp 0))⟩,
    ⟨(some 26), none, .val (.len (.tmp 25))⟩,
    ⟨(some 27), none, .val (.mv (.const (.int 0)))⟩] [])
  (.block 0 (.loop (.seq (.region [
    ⟨(some 28), none, .val (.bin .lss T.int (.tmp 27) (.tmp 26))⟩] [])
  (.seq (.cond (.tmp 28)
  .skip
  (.exit 0))
  (.seq (.block 1 (.seq (.region [
    ⟨(some 29), none, .val (.indexAddr 1 (.tmp 25) (.tmp 27))⟩,
    ⟨(some 30), none, .val (.load 1 false (.tmp 29))⟩,
    ⟨(some 6), none, .val (.mv (.tmp 30))⟩] [29, 30])
  (.seq (.seq (.region [
    ⟨(some 31), none, .val (.mv (.tmp 6))⟩,
    ⟨(some 32), none, .val (.len (.tmp 31))⟩,
    ⟨(some 33), none, .val (.bin .gtr T.int (.tmp 32) (.const (.int 8)))⟩] [31, 32])
  (.cond (.tmp 33)
  (.seq (.region [
    ⟨(some 4), none, .val (.mv (.const (.bool true)))⟩] [])
  .ret)
  .skip))
  (.seq (.region [
    ⟨(some 34), none, .val (.mv (.tmp 6))⟩,
    ⟨(some 35), none, .val (.len (.tmp 34))⟩,
    ⟨(some 36), none, .val (.mv (.const (.int 0)))⟩] [])
  (.block 2 (.loop (.seq (.region [
    ⟨(some 37), none, .val (.bin .lss T.int (.tmp 36) (.tmp 35))⟩] [])
  (.seq (.cond (.tmp 37)
  .skip
  (.exit 2))
  (.seq (.block 3 (.seq (.region [
    ⟨(some 38), none, .val (.indexAddr 1 (.tmp 34) (.tmp 36))⟩,
    ⟨(some 39), none, .val (.load 1 false (.tmp 38))⟩,
    ⟨(some 8), none, .val (.mv (.tmp 39))⟩] [38, 39])
  (.seq (.region [
    ⟨(some 40), none, .val (.mv (.tmp 8))⟩,
    ⟨(some 41), none, .val (.bin .lss T.int (.tmp 40) (.const (.int 0)))⟩,
    ⟨(some 42), none, .val (.mv (.tmp 41))⟩,
    ⟨(some 43), (some (42, false)), .val (.mv (.tmp 8))⟩,
    ⟨(some 44), (some (42, false)), .val (.bin .gtr T.int (.tmp 43) (.const (.int 1099511627776)))⟩,
    ⟨(some 45), none, .val (.pick (.tmp 42) (.const (.bool true)) (.tmp 44))⟩] [40, 41, 42, 43, 44])
  (.cond (.tmp 45)
  (.seq (.region [
    ⟨(some 4), none, .val (.mv (.const (.bool true)))⟩] [])
  .ret)
  .skip))))
  (.region [
    ⟨(some 46), none, .val (.bin .add T.int (.tmp 36) (.const (.int 1)))⟩,
    ⟨(some 36), none, .val (.mv (.tmp 46))⟩] [46]))))))))))
  (.region [
    ⟨(some 47), none, .val (.bin .add T.int (.tmp 27) (.const (.int 1)))⟩,
    ⟨(some 27), none, .val (.mv (.tmp 47))⟩] [47])))))))
  (.seq (.region [
    ⟨(some 48), none, .val (.mv (.tmp 1))⟩,
    ⟨(some 49), none, .val (.toInt .i64 (.tmp 48))⟩,
    ⟨(some 50), none, .val (.bin .rem T.int (.tmp 49) (.const (.int 10)))⟩,
    ⟨(some 9), none, .val (.mv (.tmp 50))⟩] [48, 49, 50])
  (.seq (.region [
    ⟨(some 52), none, .val (.mv (.tmp 0))⟩,
    ⟨(some 53), none, .val (.mv (.tmp 9))⟩,
    ⟨(some 54), none, .call (.const (.func (.func F.season_Total) [] [])) [(.tmp 52), (.tmp 53)]⟩,
    ⟨(some 51), none, .val (.mv (.tmp 54))⟩,
    ⟨(some 55), none, .val (.extract 0 (.tmp 51))⟩,
    ⟨(some 56), none, .val (.extract 1 (.tmp 51))⟩,
    ⟨(some 10), none, .val (.mv (.tmp 55))⟩,
    ⟨(some 11), none, .val (.mv (.tmp 56))⟩] [52, 53, 54, 51, 55, 56])
  (.seq (.seq (.region [
    ⟨(some 57), none, .val (.mv (.tmp 11))⟩,
    ⟨(some 58), none, .val (.bin .neq T.apiErrno (.tmp 57) (.const (.int 0)))⟩,
    ⟨(some 59), none, .val (.mv (.tmp 58))⟩,
    ⟨(some 60), (some (59, false)), .val (.mv (.tmp 10))⟩,
    ⟨(some 61), (some (59, false)), .val (.len (.tmp 60))⟩,
    ⟨(some 62), (some (59, false)), .val (.mv (.tmp 0))⟩,
    ⟨(some 63), (some (59, false)), .val (.len (.tmp 62))⟩,
    ⟨(some 64), (some (59, false)), .val (.bin .neq T.int (.tmp 61) (.tmp 63))⟩,
    ⟨(some 65), none, .val (.pick (.tmp 59) (.const (.bool true)) (.tmp 64))⟩] [57, 58, 59, 60, 61, 62, 63, 64])
  (.cond (.tmp 65)
  (.seq (.region [
    ⟨(some 4), none, .val (.mv (.const (.bool false)))⟩] [])
  .ret)
  .skip))
  (.seq (.seq (.region [
    ⟨(some 66), none, .val (.mv (.tmp 0))⟩,
    ⟨(some 67), none, .val (.len (.tmp 66))⟩,
    ⟨(some 68), none, .val (.mv (.const (.int 0)))⟩] [])
  (.block 4 (.loop (.seq (.region [
    ⟨(some 69), none, .val (.bin .lss T.int (.tmp 68) (.tmp 67))⟩] [])
  (.seq (.cond (.tmp 69)
  .skip
  (.exit 4))
  (.seq (.block 5 (.seq (.region [
    ⟨(some 70), none, .val (.mv (.tmp 68))⟩,
    ⟨(some 71), none, .val (.indexAddr 1 (.tmp 66) (.tmp 68))⟩,
    ⟨(some 72), none, .val (.load 1 false (.tmp 71))⟩,
    ⟨(some 12), none, .val (.mv (.tmp 70))⟩,
    ⟨(some 13), none, .val (.mv (.tmp 72))⟩] [70, 71, 72])
  (.seq (.region [
    ⟨(some 14), none, .val (.mv (.const (.int 0)))⟩] [])
  (.seq (.seq (.region [
    ⟨(some 73), none, .val (.mv (.tmp 13))⟩,
    ⟨(some 74), none, .val (.len (.tmp 73))⟩,
    ⟨(some 75), none, .val (.bin .shl T.int (.const (.int 1)) (.tmp 74))⟩,
    ⟨(some 76), none, .val (.mv (.const (.int 0)))⟩] [73, 74])
  (.block 6 (.loop (.seq (.region [
    ⟨(some 77), none, .val (.bin .lss T.int (.tmp 76) (.tmp 75))⟩] [])
  (.seq (.cond (.tmp 77)
  .skip
  (.exit 6))
  (.seq (.block 7 (.seq (.region [
    ⟨(some 78), none, .val (.mv (.tmp 76))⟩,
    ⟨(some 15), none, .val (.mv (.tmp 78))⟩] [78])
  (.seq (.region [
    ⟨(some 16), none, .val (.mv (.const (.int 0)))⟩,
    ⟨(some 17), none, .val (.mv (.const (.int 0)))⟩] [])
  (.seq (.seq (.region [
    ⟨(some 79), none, .val (.mv (.tmp 13))⟩,
    ⟨(some 80), none, .val (.len (.tmp 79))⟩,
    ⟨(some 81), none, .val (.mv (.const (.int 0)))⟩] [])
  (.block 8 (.loop (.seq (.region [
    ⟨(some 82), none, .val (.bin .lss T.int (.tmp 81) (.tmp 80))⟩] [])
  (.seq (.cond (.tmp 82)
  .skip
  (.exit 8))
  (.seq (.block 9 (.seq (.region [
    ⟨(some 83), none, .val (.mv (.tmp 81))⟩,
    ⟨(some 84), none, .val (.indexAddr 1 (.tmp 79) (.tmp 81))⟩,
    ⟨(some 85), none, .val (.load 1 false (.tmp 84))⟩,
    ⟨(some 18), none, .val (.mv (.tmp 83))⟩,
    ⟨(some 19), none, .val (.mv (.tmp 85))⟩] [83, 84, 85])
  (.seq (.region [
    ⟨(some 86), none, .val (.mv (.tmp 15))⟩,
    ⟨(some 87), none, .val (.mv (.tmp 18))⟩,
    ⟨(some 88), none, .val (.bin .shr T.int (.tmp 86) (.tmp 87))⟩,
    ⟨(some 89), none, .val (.bin .and T.int (.tmp 88) (.const (.int 1)))⟩,
    ⟨(some 90), none, .val (.bin .eql T.int (.tmp 89) (.const (.int 1)))⟩] [86, 87, 88, 89])
  (.cond (.tmp 90)
  (.region [
    ⟨(some 91), none, .val (.mv (.tmp 16))⟩,
    ⟨(some 92), none, .val (.bin .add T.int (.tmp 91) (.const (.int 1)))⟩,
    ⟨(some 93), none, .val (.mv (.tmp 17))⟩,
    ⟨(some 94), none, .val (.mv (.tmp 19))⟩,
    ⟨(some 95), none, .val (.bin .add T.int (.tmp 93) (.tmp 94))⟩,
    ⟨(some 16), none, .val (.mv (.tmp 92))⟩,
    ⟨(some 17), none, .val (.mv (.tmp 95))⟩] [91, 92, 93, 94, 95])
  .skip))))
  (.region [
    ⟨(some 96), none, .val (.bin .add T.int (.tmp 81) (.const (.int 1)))⟩,
    ⟨(some 81), none, .val (.mv (.tmp 96))⟩] [96])))))))
  (.seq (.region [
    ⟨(some 97), none, .val (.mv (.tmp 16))⟩,
    ⟨(some 98), none, .val (.mv (.tmp 9))⟩,
    ⟨(some 99), none, .val (.bin .leq T.int (.tmp 97) (.tmp 98))⟩] [97, 98])
  (.cond (.tmp 99)
  (.region [
    ⟨(some 100), none, .val (.mv (.tmp 14))⟩,
    ⟨(some 101), none, .val (.mv (.tmp 17))⟩,
    ⟨(some 102), none, .val (.minmax true [(.tmp 100), (.tmp 101)])⟩,
    ⟨(some 14), none, .val (.mv (.tmp 102))⟩] [100, 101, 102])
  .skip))))))
  (.region [
    ⟨(some 103), none, .val (.bin .add T.int (.tmp 76) (.const (.int 1)))⟩,
    ⟨(some 76), none, .val (.mv (.tmp 103))⟩] [103])))))))
  (.seq (.region [
    ⟨(some 104), none, .val (.mv (.tmp 10))⟩,
    ⟨(some 105), none, .val (.mv (.tmp 12))⟩,
    ⟨(some 106), none, .val (.indexAddr 1 (.tmp 104) (.tmp 105))⟩,
    ⟨(some 107), none, .val (.load 1 false (.tmp 106))⟩,
    ⟨(some 108), none, .val (.mv (.tmp 14))⟩,
    ⟨(some 109), none, .val (.bin .neq T.int (.tmp 107) (.tmp 108))⟩] [104, 105, 106, 107, 108])
  (.cond (.tmp 109)
  (.seq (.region [
    ⟨(some 4), none, .val (.mv (.const (.bool false)))⟩] [])
  .ret)
  .skip))))))
  (.region [
    ⟨(some 110), none, .val (.bin .add T.int (.tmp 68) (.const (.int 1)))⟩,
    ⟨(some 68), none, .val (.mv (.tmp 110))⟩] [110])))))))
  (.seq (.region [
    ⟨(some 4), none, .val (.mv (.const (.bool true)))⟩] [])
  .ret)))))))))⟩
theorem H.podiumlaw26_SeasonBest : Has P F.podiumlaw26_SeasonBest C.podiumlaw26_SeasonBest := ⟨Try.f5, Try.func5, by kernel_rfl, by kernel_rfl⟩
end Go.Proofs.Ytgjgcflgjpigpaa
/- Points, totals and records match the specification. -/
namespace Go.Proofs.Ytgjgcflgjpigpaa
open Go.Pv
set_option maxRecDepth 100000
set_option maxHeartbeats 8000000
end Go.Proofs.Ytgjgcflgjpigpaa
/- Points of ranks. -/
namespace Go.Proofs.Ytgjgcflgjpigpaa
open Go.Pv
set_option maxRecDepth 100000
set_option maxHeartbeats 8000000
end Go.Proofs.Ytgjgcflgjpigpaa
/- The best events: all choices. -/
namespace Go.Proofs.Ytgjgcflgjpigpaa
open Go.Pv
set_option maxRecDepth 100000
set_option maxHeartbeats 8000000
theorem pop_snoc : ∀ (j m : Nat), pop (j + 1) m = pop j m + m / 2 ^ j % 2
  | 0, m => by simp [pop]
  | j + 1, m => by
    have ih := pop_snoc j (m / 2)
    have e : m / 2 / 2 ^ j = m / 2 ^ (j + 1) := by rw [Nat.div_div_eq_div_mul, Nat.pow_succ, Nat.mul_comm]
    rw [e] at ih
    rw [pop, ih, pop]
    omega
theorem maskS_le {M : Int} (hM : 0 ≤ M) : ∀ {l : List Int} (_ : ∀ x ∈ l, x ≤ M) (m : Nat), maskS l m ≤ l.length * M
  | [], _, _ => by simp [maskS]
  | x :: l, h, m => by
    have h1 := maskS_le hM (l := l) (fun y hy => h y (by simp [hy])) (m / 2)
    have h2 := h x (by simp)
    have e : (((x :: l).length : Nat) : Int) * M = l.length * M + M := by rw [List.length_cons, Int.natCast_add, Int.add_mul]; simp
    simp only [maskS]
    split <;> omega
theorem maskS_pos : ∀ {l : List Int} (_ : ∀ x ∈ l, 0 ≤ x) (m : Nat), 0 ≤ maskS l m
  | [], _, _ => by simp [maskS]
  | x :: l, h, m => by
    have h1 := maskS_pos (l := l) (fun y hy => h y (by simp [hy])) (m / 2)
    have h2 := h x (by simp)
    simp only [maskS]
    split <;> omega
/-- The rows are short, and their numbers fine. -/
def SmallR (c : Nat) (r : List Int) : Prop := r.length ≤ c ∧ ∀ x ∈ r, 0 ≤ x ∧ x ≤ 1099511627776
theorem totE_small {L : List (Bool × List Int)} (h1 : L.length ≤ 20) (h2 : ∀ r ∈ L, SmallR 64 r.2) {k : Nat} (hk : k ≤ 64) : totE L k = 0 ∧ totL L k = L.map fun r => topSum r.2 k := by
  have e1 : L.any (fun r => decide ((64 : Int) < r.2.length)) = false := by
    rw [List.any_eq_false]
    intro r hr
    have := (h2 r hr).1
    simp; omega
  have e2 : L.any (fun r => !r.2.all amt) = false := by
    rw [List.any_eq_false]
    intro r hr
    have : r.2.all amt = true := List.all_eq_true.2 fun x hx => amt_iff.2 ((h2 r hr).2 x hx)
    simp [this]
  have e3 : btw (k : Int) 0 64 = true := by unfold btw; simp; omega
  have e4 : decide ((4096 : Int) < L.length) = false := decide_eq_false (by omega)
  have e : totE L k = 0 := by unfold totE; rw [e1, e2, e3, e4]; rfl
  exact ⟨e, by unfold totL; rw [if_pos e]; simp⟩
theorem best_law (L : List (Bool × List Int)) (b8 : Int) (hb : 0 ≤ b8 ∧ b8 < 256) (st : Store) : Rets P F.podiumlaw26_SeasonBest [llLst false L, .val (.int .u8 b8)] st (.bool true) := by
  refine H.podiumlaw26_SeasonBest.view hmix rfl rfl ?_
  by_cases h1 : (20 : Int) < L.length
  · repeat' (first 
     | (with_reducible refine Rets.xcall (sane_spec _) ?_)
     | (simp -dsimp -implicitDefEqProofs [*]))
    exact .same ⟨rfl, rfl⟩
  have h20 : L.length ≤ 20 := by omega
  have x4 : IntKind.i64.wrap b8 = b8 := wrap_in (by omega) (by omega)
  obtain ⟨k, hk⟩ : ∃ k : Nat, b8.tmod 10 = k := ⟨(b8.tmod 10).toNat, by have := Int.tmod_nonneg 10 hb.1; omega⟩
  have hk9 : k ≤ 9 := by have := Int.tmod_lt_of_pos b8 (show (0 : Int) < 10 by omega); omega
  have x6 : IntKind.i64.wrap (b8.tmod 10) = k := by rw [hk]; exact wrap_in (by omega) (by omega)
  have kT : Hid ((∀ r ∈ L, SmallR 8 r.2) → totE L k = 0 ∧ totL L k = L.map fun r => topSum r.2 k) := ⟨fun h => totE_small h20 (fun r hr => ⟨Nat.le_trans (h r hr).1 (by omega), (h r hr).2⟩) (by omega)⟩
  have kS : Hid ((∀ r ∈ L, SmallR 8 r.2) → Short L) := ⟨fun h => ⟨by omega, fun r hr => by have := (h r hr).1; omega⟩⟩
  repeat' (first 
   | (with_reducible refine Rets.xcall (sane_spec _) ?_)
   | (simp -dsimp -implicitDefEqProofs [*]))
  refine xloop_for (fun n : Nat => [(0, llLst false L), (1, .val (.int .u8 b8)), (25, llLst false L), (26, .int L.length), (27, .int n)]) (fun _ => st) (fun n => n ≤ L.length ∧ Hid (∀ j (h : j < L.length), j < n → SmallR 8 L[j].2)) (fun n => L.length - n) 0 ⟨Nat.zero_le _, ⟨fun j _ h => absurd h (by omega)⟩⟩ (by simp) (.refl _) ?_
  rintro n ⟨hn, hI⟩
  by_cases hnl : n < L.length
  · have hw := wrap_succ (n := n) (by omega)
    have g1 := llRow_get hnl
    have g2 := llRow_getE hnl
    have hI2 : Hid (SmallR 8 L[n].2 → ∀ j (h : j < L.length), j < n + 1 → SmallR 8 L[j].2) := ⟨fun h j hj h2 => if e : j = n then by subst e; exact h else hI.out j hj (by omega)⟩
    obtain ⟨r, hr⟩ : ∃ r, r = L[n].2 := ⟨_, rfl⟩
    obtain ⟨t, ht⟩ : ∃ t, t = L[n].1 := ⟨_, rfl⟩
    rw [← hr] at hI2 g1
    rw [← ht] at g1
    simp only [← hr, ← ht] at g2
    clear hI kT kS hr ht
    by_cases h8 : (8 : Int) < r.length
    · repeat' (simp -dsimp -implicitDefEqProofs [*])
      exact .same ⟨rfl, rfl⟩
    repeat' (simp -dsimp -implicitDefEqProofs [*])
    refine xloop_for (fun j : Nat => [(0, llLst false L), (1, .val (.int .u8 b8)), (25, llLst false L), (26, .int L.length), (27, .int n), (34, intLst t r), (35, .int r.length), (36, .int j)]) (fun _ => st) (fun j => j ≤ r.length ∧ Hid (∀ i (h : i < r.length), i < j → 0 ≤ r[i] ∧ r[i] ≤ 1099511627776)) (fun j => r.length - j) 0 ⟨Nat.zero_le _, ⟨fun j _ h => absurd h (by omega)⟩⟩ (by simp) (.refl _) ?_
    rintro j ⟨hj, hJ⟩
    by_cases hjl : j < r.length
    · have hw2 := wrap_succ (n := j) (by omega)
      have hJ2 : Hid (0 ≤ r[j] ∧ r[j] ≤ 1099511627776 → ∀ i (h : i < r.length), i < j + 1 → 0 ≤ r[i] ∧ r[i] ≤ 1099511627776) := ⟨fun h i hi h2 => if e : i = j then by subst e; exact h else hJ.out i hi (by omega)⟩
      clear hJ hI2
      by_cases y1 : r[j] < 0
      · repeat' (simp -dsimp -implicitDefEqProofs [*])
        exact .same ⟨rfl, rfl⟩
      by_cases y2 : 1099511627776 < r[j]
      · repeat' (simp -dsimp -implicitDefEqProofs [*])
        exact .same ⟨rfl, rfl⟩
      have hJ3 := Hid.mk (hJ2.out ⟨by omega, by omega⟩)
      clear hJ2
      repeat' (simp -dsimp -implicitDefEqProofs [*])
      exact Next.intro (j + 1) ⟨by omega, hJ3⟩ (by omega) (by simp) (by repeat' (first | exact StLe.refl _ | (refine StLe_cons (by simp [*]; done) ?_) | (refine StLe_fresh (by simp [*]; done) ?_)))
    · have hI3 := Hid.mk (hI2.out ⟨by omega, fun x hx => by
        obtain ⟨i, hi, rfl⟩ := List.mem_iff_getElem.1 hx
        exact hJ.out i hi (by omega)⟩)
      obtain rfl : j = r.length := by omega
      clear hI2 hJ
      repeat' (simp -dsimp -implicitDefEqProofs [*])
      exact Next.intro (n + 1) ⟨by omega, hI3⟩ (by omega) (by simp) (by repeat' (first | exact StLe.refl _ | (refine StLe_cons (by simp [*]; done) ?_) | (refine StLe_fresh (by simp [*]; done) ?_)))
  obtain rfl : n = L.length := by omega
  have hA : ∀ r ∈ L, SmallR 8 r.2 := fun r hr => by
    obtain ⟨i, hi, rfl⟩ := List.mem_iff_getElem.1 hr
    exact hI.out i hi hi
  have ct := total_spec false L (kS.out hA) k
  obtain ⟨e1, e2⟩ := kT.out hA
  rw [e1, e2] at ct
  have hlM : (L.map fun r => topSum r.2 k).length = L.length := by simp
  have kM : Hid (∀ n (h : n < L.length) (h2 : n < (L.map fun r => topSum r.2 k).length), (L.map fun r => topSum r.2 k)[n] = topSum L[n].2 k) := ⟨fun n h h2 => by simp⟩
  obtain ⟨M, hM⟩ : ∃ M, M = L.map fun r => topSum r.2 k := ⟨_, rfl⟩
  rw [← hM] at ct hlM kM
  have kA : Hid _ := ⟨hA⟩
  clear e1 e2 kS kT hI hM hA
  repeat' (first 
   | (with_reducible refine Rets.xcall (ct _) ?_)
   | (simp -dsimp -implicitDefEqProofs [*]))
  clear hk
  refine xloop_for (fun n : Nat => [(9, .int k), (10, intLst false M), (66, llLst false L), (67, .int L.length), (68, .int n)]) (fun _ => st) (fun n => n ≤ L.length) (fun n => L.length - n) 0 (Nat.zero_le _) (by simp) (.refl _) ?_
  clear ct hn hnl
  intro n hn
  by_cases hnl : n < L.length
  case neg =>
    obtain rfl : n = L.length := by omega
    clear kM kA
    repeat' (simp -dsimp -implicitDefEqProofs [*])
    exact .same ⟨rfl, rfl⟩
  have hw := wrap_succ (n := n) (by omega)
  have g1 := llRow_get hnl
  have g2 := llRow_getE hnl
  have hnM : n < M.length := by omega
  have sm := kA.out _ (List.getElem_mem hnl)
  have kM := Hid.mk (kM.out n hnl hnM)
  have m2 : (intRow M)[n]? = some (.int M[n]) := intRow_get M n hnM
  have M2 : ∀ h, (intRow M)[n]'h = .int M[n] := fun h => intRow_getE M n h
  obtain ⟨u, hu⟩ : ∃ u, u = M[n] := ⟨_, rfl⟩
  obtain ⟨r, hr⟩ : ∃ r, r = L[n].2 := ⟨_, rfl⟩
  obtain ⟨t, ht⟩ : ∃ t, t = L[n].1 := ⟨_, rfl⟩
  rw [← hu] at m2 M2 kM
  rw [← hr] at sm kM g1
  rw [← ht] at g1
  simp only [← hr, ← ht] at g2
  obtain ⟨s1, s2⟩ := sm
  have kR : Hid (∀ x ∈ r, 0 ≤ x ∧ x ≤ 1099511627776) := ⟨s2⟩
  have kU : Hid (bestAt r (fun m => decide (pop r.length m ≤ k)) (2 ^ r.length) = u) := ⟨by rw [kM.out]; exact topSum_best (fun x hx => (s2 x hx).1) k⟩
  have hsh : ∀ K, xbin .shl (.val (.int .i64 1)) (.val (.int .i64 (r.length : Int))) K = K (.val (.int .i64 ((2 ^ r.length : Nat) : Int))) := fun K => xshl_one r.length K (by omega)
  obtain ⟨N, hN⟩ : ∃ N, N = 2 ^ r.length := ⟨_, rfl⟩
  have hN9 : N ≤ 256 := by rw [hN]; exact Nat.le_trans (Nat.pow_le_pow_right (by decide) s1) (by decide)
  simp only [← hN] at hsh kU
  clear kM kA s2 hu hr ht hN
  repeat' (simp -dsimp -implicitDefEqProofs [*])
  refine xloop_for (fun y : Nat × Int => [(9, .int k), (10, intLst false M), (66, llLst false L), (67, .int L.length), (68, .int n), (12, .int n), (13, intLst t r), (14, .int y.2), (75, .int N), (76, .int y.1)]) (fun _ => st) (fun y => y.1 ≤ N ∧ Hid (y.2 = bestAt r (fun m => decide (pop r.length m ≤ k)) y.1)) (fun y => N - y.1) (0, 0) ⟨Nat.zero_le _, ⟨rfl⟩⟩ (by simp) (.refl _) ?_
  clear hsh
  rintro ⟨i, v⟩ ⟨hi, hv⟩
  replace hi : i ≤ N := hi
  by_cases hiN : i < N
  case neg =>
    have hiN2 : i = N := by omega
    subst hiN2
    have hv2 : v = u := by have := hv.out; rw [← kU.out]; exact this
    subst hv2
    clear kU kR hv
    repeat' (simp -dsimp -implicitDefEqProofs [*])
    exact Next.intro (n + 1) (by omega) (by omega) (by simp) (by repeat' (first | exact StLe.refl _ | (refine StLe_cons (by simp [*]; done) ?_) | (refine StLe_fresh (by simp [*]; done) ?_)))
  have hw1 := wrap_succ (n := i) (by omega)
  have hst : Hid (bestAt r (fun m => decide (pop r.length m ≤ k)) (i + 1) = if decide (pop r.length i ≤ k) = true then max v (maskS r i) else v) := ⟨by rw [bestAt]; have := hv.out; simp only at this; rw [← this]⟩
  clear hv kU
  repeat' (simp -dsimp -implicitDefEqProofs [*])
  refine xloop_for (fun y : Nat × Int × Nat => [(9, .int k), (10, intLst false M), (66, llLst false L), (67, .int L.length), (68, .int n), (12, .int n), (13, intLst t r), (14, .int v), (75, .int N), (76, .int i), (15, .int i), (16, .int y.2.2), (17, .int y.2.1), (79, intLst t r), (80, .int r.length), (81, .int y.1)]) (fun _ => st) (fun y => y.1 ≤ r.length ∧ Hid (y.2.1 = maskS (r.take y.1) i ∧ y.2.2 = pop y.1 i)) (fun y => r.length - y.1) (0, 0, 0) ⟨Nat.zero_le _, ⟨⟨rfl, rfl⟩⟩⟩ (by simp) (.refl _) ?_
  rintro ⟨j, s, c⟩ ⟨hj, hjk⟩
  replace hj : j ≤ r.length := hj
  replace hjk : Hid (s = maskS (r.take j) i ∧ c = pop j i) := hjk
  by_cases hjl : j < r.length
  · have x6 := wrap_succ (n := j) (by omega)
    have hs1 := maskS_get (m := i) hjl
    have hs2 := pop_snoc j i
    have hpl := pop_le j i
    rw [← hjk.out.1] at hs1
    rw [← hjk.out.2] at hs2 hpl
    have hb1 : maskS (r.take (j + 1)) i ≤ 8 * 1099511627776 := by
      have := maskS_le (M := 1099511627776) (by decide) (l := r.take (j + 1)) (fun x hx => (kR.out x (List.mem_of_mem_take hx)).2) i
      have h2 : (r.take (j + 1)).length ≤ 8 := Nat.le_trans (List.length_take_le _ _) (by omega)
      omega
    have hb0 : 0 ≤ maskS (r.take (j + 1)) i := maskS_pos (fun x hx => (kR.out x (List.mem_of_mem_take hx)).1) i
    clear hjk
    have H0 : ∃ p, p = i / 2 ^ j := ⟨_, rfl⟩; obtain ⟨p, hp⟩ := H0
    have hshr : ∀ K, xbin .shr (.val (.int .i64 (i : Int))) (.val (.int .i64 (j : Int))) K = K (.val (.int .i64 (p : Int))) := fun K => by rw [xshr_nat i j K (by omega), hp]
    have hpi : p ≤ i := by rw [hp]; exact Nat.div_le_self _ _
    rw [← hp] at hs1 hs2
    have hand : ∀ K, xbin .and (.val (.int .i64 (p : Int))) (.val (.int .i64 1)) K = K (.val (.int .i64 ((p % 2 : Nat) : Int))) := fun K => xand_one p K (by omega)
    have H0 : ∃ d, d = p % 2 := ⟨_, rfl⟩; obtain ⟨d, hd⟩ := H0
    have hd2 : d < 2 := by omega
    rw [← hd] at hs1 hs2
    simp only [← hd] at hand
    clear hp hpi hd
    by_cases hd1 : d = 1
    · subst hd1
      rw [if_pos rfl] at hs1
      have x7 : IntKind.i64.wrap (s + r[j]) = s + r[j] := by rw [← hs1]; exact wrap_in (by omega) (by omega)
      have x8 := wrap_succ (n := c) (by omega)
      have k1 : Hid (s + r[j] = maskS (r.take (j + 1)) i ∧ c + 1 = pop (j + 1) i) := ⟨hs1.symm, hs2.symm⟩
      clear hs1 hs2 hb0 hb1
      repeat' (simp -dsimp -implicitDefEqProofs [*])
      exact Next.intro (j + 1, s + r[j], c + 1) ⟨by simp only; omega, k1⟩ (by simp only; omega) (by simp) (by repeat' (first | exact StLe.refl _ | (refine StLe_cons (by simp [*]; done) ?_) | (refine StLe_fresh (by simp [*]; done) ?_)))
    · have hd0 : d = 0 := by omega
      subst hd0
      rw [if_neg hd1] at hs1
      have k1 : Hid (s = maskS (r.take (j + 1)) i ∧ c = pop (j + 1) i) := ⟨by rw [hs1, Int.add_zero], hs2.symm⟩
      clear hs1 hs2 hb0 hb1 hd1
      repeat' (simp -dsimp -implicitDefEqProofs [*])
      exact Next.intro (j + 1, s, c) ⟨by simp only; omega, k1⟩ (by simp only; omega) (by simp) (by repeat' (first | exact StLe.refl _ | (refine StLe_cons (by simp [*]; done) ?_) | (refine StLe_fresh (by simp [*]; done) ?_)))
  · have hj0 : j = r.length := by omega
    subst hj0
    have hst := hst.out
    obtain ⟨g1, g2⟩ := hjk.out
    rw [List.take_length] at g1
    rw [← g1, ← g2] at hst
    clear g1 g2 hjk kR
    rw [show max v s = if v < s then s else v by split <;> omega] at hst
    by_cases hck : c ≤ k
    · rw [if_pos (decide_eq_true hck)] at hst
      have hck2 : (c : Int) ≤ k := by omega
      by_cases hvs : v < s
      · rw [if_pos hvs] at hst
        have ke := Hid.mk hst.symm
        clear hst
        repeat' (simp -dsimp -implicitDefEqProofs [*])
        exact Next.intro (i + 1, s) ⟨by simp only; omega, ke⟩ (by simp only; omega) (by simp) (by repeat' (first | exact StLe.refl _ | (refine StLe_cons (by simp [*]; done) ?_) | (refine StLe_fresh (by simp [*]; done) ?_)))
      · rw [if_neg hvs] at hst
        have ke := Hid.mk hst.symm
        clear hst
        repeat' (simp -dsimp -implicitDefEqProofs [*])
        exact Next.intro (i + 1, v) ⟨by simp only; omega, ke⟩ (by simp only; omega) (by simp) (by repeat' (first | exact StLe.refl _ | (refine StLe_cons (by simp [*]; done) ?_) | (refine StLe_fresh (by simp [*]; done) ?_)))
    · rw [if_neg (by simpa using hck)] at hst
      have hck2 : ¬ (c : Int) ≤ k := by omega
      have ke := Hid.mk hst.symm
      clear hst
      repeat' (simp -dsimp -implicitDefEqProofs [*])
      exact Next.intro (i + 1, v) ⟨by simp only; omega, ke⟩ (by simp only; omega) (by simp) (by repeat' (first | exact StLe.refl _ | (refine StLe_cons (by simp [*]; done) ?_) | (refine StLe_fresh (by simp [*]; done) ?_)))
end Go.Proofs.Ytgjgcflgjpigpaa
