/- The code of one function. -/
import Derived.Test.YtgjgcflgjpigpaaCode
import Derived.Test.YtgjgcflgjpigpaaS26ZN
set_option maxRecDepth 100000
namespace Go.Proofs.Ytgjgcflgjpigpaa
open Go.Pv
/-- podium/podiumlaw26.SeasonSpec -/
noncomputable def C.podiumlaw26_SeasonSpec : MFunc := ⟨74, 4, [.tmp 8],
  (.seq (.region [
    ⟨(some 8), none, .val (.mv (.const (.bool false)))⟩] [])
  (.seq (.seq (.region [
    ⟨(some 17), none, .call (.const (.func (.func F.podiumlaw26_sane) [] [])) []⟩,
    ⟨(some 18), none, .val (.un .not (.tmp 17))⟩] [17])
  (.cond (.tmp 18)
  (.seq (.region [
    ⟨(some 8), none, .val (.mv (.const (.bool false)))⟩] [])
  .ret)
  .skip))
  (.seq (.seq (.region [
    ⟨(some 19), none, .val (.mv (.tmp 0))⟩,
    ⟨(some 20), none, .val (.len (.tmp 19))⟩,
    ⟨(some 21), none, .val (.bin .gtr T.int (.tmp 20) (.const (.int 100)))⟩,
    ⟨(some 22), none, .val (.mv (.tmp 21))⟩,
    ⟨(some 23), (some (22, false)), .val (.mv (.tmp 1))⟩,
    ⟨(some 24), (some (22, false)), .val (.len (.tmp 23))⟩,
    ⟨(some 25), (some (22, false)), .val (.bin .gtr T.int (.tmp 24) (.const (.int 100)))⟩,
    ⟨(some 26), none, .val (.pick (.tmp 22) (.const (.bool true)) (.tmp 25))⟩,
    ⟨(some 27), none, .val (.mv (.tmp 26))⟩,
    ⟨(some 28), (some (27, false)), .val (.mv (.tmp 2))⟩,
    ⟨(some 29), (some (27, false)), .call (.const (.func (.func F.podiumref26_FewPoints) [] [])) [(.tmp 28)]⟩,
    ⟨(some 30), (some (27, false)), .val (.un .not (.tmp 29))⟩,
    ⟨(some 31), none, .val (.pick (.tmp 27) (.const (.bool true)) (.tmp 30))⟩] [19, 20, 21, 22, 23, 24, 25, 26, 27, 28, 29, 30])
  (.cond (.tmp 31)
  (.seq (.region [
    ⟨(some 8), none, .val (.mv (.const (.bool true)))⟩] [])
  .ret)
  .skip))
  (.seq (.region [
    ⟨(some 33), none, .val (.mv (.tmp 0))⟩,
    ⟨(some 34), none, .val (.mv (.tmp 1))⟩,
    ⟨(some 35), none, .call (.const (.func (.func F.season_Points) [] [])) [(.tmp 33), (.tmp 34)]⟩,
    ⟨(some 32), none, .val (.mv (.tmp 35))⟩,
    ⟨(some 36), none, .val (.extract 0 (.tmp 32))⟩,
    ⟨(some 37), none, .val (.extract 1 (.tmp 32))⟩,
    ⟨(some 9), none, .val (.mv (.tmp 36))⟩,
    ⟨(some 10), none, .val (.mv (.tmp 37))⟩] [33, 34, 35, 32, 36, 37])
  (.seq (.region [
    ⟨(some 39), none, .val (.mv (.tmp 0))⟩,
    ⟨(some 40), none, .val (.mv (.tmp 1))⟩,
    ⟨(some 41), none, .call (.const (.func (.func F.podiumref26_Points) [] [])) [(.tmp 39), (.tmp 40)]⟩,
    ⟨(some 38), none, .val (.mv (.tmp 41))⟩,
    ⟨(some 42), none, .val (.extract 0 (.tmp 38))⟩,
    ⟨(some 43), none, .val (.extract 1 (.tmp 38))⟩,
    ⟨(some 11), none, .val (.mv (.tmp 42))⟩,
    ⟨(some 12), none, .val (.mv (.tmp 43))⟩] [39, 40, 41, 38, 42, 43])
  (.seq (.region [
    ⟨(some 45), none, .val (.mv (.tmp 2))⟩,
    ⟨(some 46), none, .val (.mv (.tmp 3))⟩,
    ⟨(some 47), none, .call (.const (.func (.func F.season_Total) [] [])) [(.tmp 45), (.tmp 46)]⟩,
    ⟨(some 44), none, .val (.mv (.tmp 47))⟩,
    ⟨(some 48), none, .val (.extract 0 (.tmp 44))⟩,
    ⟨(some 49), none, .val (.extract 1 (.tmp 44))⟩,
    ⟨(some 13), none, .val (.mv (.tmp 48))⟩,
    ⟨(some 14), none, .val (.mv (.tmp 49))⟩] [45, 46, 47, 44, 48, 49])
  (.seq (.region [
    ⟨(some 51), none, .val (.mv (.tmp 2))⟩,
    ⟨(some 52), none, .val (.mv (.tmp 3))⟩,
    ⟨(some 53), none, .call (.const (.func (.func F.podiumref26_Total) [] [])) [(.tmp 51), (.tmp 52)]⟩,
    ⟨(some 50), none, .val (.mv (.tmp 53))⟩,
    ⟨(some 54), none, .val (.extract 0 (.tmp 50))⟩,
    ⟨(some 55), none, .val (.extract 1 (.tmp 50))⟩,
    ⟨(some 15), none, .val (.mv (.tmp 54))⟩,
    ⟨(some 16), none, .val (.mv (.tmp 55))⟩] [51, 52, 53, 50, 54, 55])
  (.seq (.region [
    ⟨(some 56), none, .val (.mv (.tmp 9))⟩,
    ⟨(some 57), none, .val (.mv (.tmp 11))⟩,
    ⟨(some 58), none, .call (.const (.func (.func F.podiumref26_SameInts) [] [])) [(.tmp 56), (.tmp 57)]⟩,
    ⟨(some 59), none, .val (.mv (.tmp 58))⟩,
    ⟨(some 60), (some (59, true)), .val (.mv (.tmp 10))⟩,
    ⟨(some 61), (some (59, true)), .val (.mv (.tmp 12))⟩,
    ⟨(some 62), (some (59, true)), .val (.bin .eql T.apiErrno (.tmp 60) (.tmp 61))⟩,
    ⟨(some 63), none, .val (.pick (.tmp 59) (.tmp 62) (.const (.bool false)))⟩,
    ⟨(some 64), none, .val (.mv (.tmp 63))⟩,
    ⟨(some 65), (some (64, true)), .val (.mv (.tmp 13))⟩,
    ⟨(some 66), (some (64, true)), .val (.mv (.tmp 15))⟩,
    ⟨(some 67), (some (64, true)), .call (.const (.func (.func F.podiumref26_SameInts) [] [])) [(.tmp 65), (.tmp 66)]⟩,
    ⟨(some 68), none, .val (.pick (.tmp 64) (.tmp 67) (.const (.bool false)))⟩,
    ⟨(some 69), none, .val (.mv (.tmp 68))⟩,
    ⟨(some 70), (some (69, true)), .val (.mv (.tmp 14))⟩,
    ⟨(some 71), (some (69, true)), .val (.mv (.tmp 16))⟩,
    ⟨(some 72), (some (69, true)), .val (.bin .eql T.apiErrno (.tmp 70) (.tmp 71))⟩,
    ⟨(some 73), none, .val (.pick (.tmp 69) (.tmp 72) (.const (.bool false)))⟩,
    ⟨(some 8), none, .val (.mv (.tmp 73))⟩] [56, 57, 58, 59, 60, 61, 62, 63, 64, 65, 66, 67, 68, 69, 70, 71, 72, 73])
  .ret))))))))⟩
theorem H.podiumlaw26_SeasonSpec : Has P F.podiumlaw26_SeasonSpec C.podiumlaw26_SeasonSpec := ⟨Try.f3, Try.func3, by kernel_rfl, by kernel_rfl⟩
end Go.Proofs.Ytgjgcflgjpigpaa
/- Points, totals and records match the specification. -/
namespace Go.Proofs.Ytgjgcflgjpigpaa
open Go.Pv
set_option maxRecDepth 100000
set_option maxHeartbeats 8000000
theorem ptsL_len (R : List Int) (p : List Pl) : (ptsL R p).length ≤ p.length := by
  unfold ptsL
  split
  · simp
  · simp
theorem totL_len (L : List (Bool × List Int)) (best : Int) : (totL L best).length ≤ L.length := by
  unfold totL
  split
  · simp
  · simp
theorem spec_law (R : List Int) (hR : R.length ≤ 9223372036854775807) (p : List Pl) (hp : p.length ≤ 9223372036854775807) (L : List (Bool × List Int)) (hL : Short L) (best : Int) (st : Store) : Rets P F.podiumlaw26_SeasonSpec [intLst false R, Pl.lst false p, llLst false L, .int best] st (.bool true) := by
  have cf := fewPoints_spec false L
  have c1 := points_spec false false R hR p hp
  have c2 := rPoints_spec false false R p
  have c3 := total_spec false L hL best
  have c4 := rTotal_spec false L best
  have l1 := ptsL_len R p
  have l2 := totL_len L best
  have l3 := hL.1
  have s1 := sameInts_spec false false (ptsL R p) (ptsL R p) (by omega)
  have s2 := sameInts_spec false false (totL L best) (totL L best) (by omega)
  rw [decide_eq_true rfl] at s1 s2
  obtain ⟨A, hA⟩ : ∃ A, A = ptsL R p := ⟨_, rfl⟩
  obtain ⟨B, hB⟩ : ∃ B, B = totL L best := ⟨_, rfl⟩
  obtain ⟨E, hE⟩ : ∃ A, A = ptsE R p := ⟨_, rfl⟩
  obtain ⟨G, hG⟩ : ∃ B, B = totE L best := ⟨_, rfl⟩
  obtain ⟨w, hw⟩ : ∃ B, B = fewP L := ⟨_, rfl⟩
  rw [← hA, ← hE] at c1 c2
  rw [← hB, ← hG] at c3 c4
  rw [← hA] at s1
  rw [← hB] at s2
  rw [← hw] at cf
  clear hA hB hE hG hw l1 l2 l3 hL
  refine H.podiumlaw26_SeasonSpec.view hmix rfl rfl ?_
  by_cases h1 : (100 : Int) < R.length
  · repeat' (first 
     | (with_reducible refine Rets.xcall (sane_spec _) ?_)
     | (simp -dsimp -implicitDefEqProofs [*]))
    exact .same ⟨rfl, rfl⟩
  by_cases h2 : (100 : Int) < p.length
  · repeat' (first 
     | (with_reducible refine Rets.xcall (sane_spec _) ?_)
     | (simp -dsimp -implicitDefEqProofs [*]))
    exact .same ⟨rfl, rfl⟩
  cases w with
  | false =>
    repeat' (first 
     | (with_reducible refine Rets.xcall (sane_spec _) ?_)
     | (with_reducible refine Rets.xcall (cf _) ?_)
     | (simp -dsimp -implicitDefEqProofs [*]))
    exact .same ⟨rfl, rfl⟩
  | true =>
    repeat' (first 
     | (with_reducible refine Rets.xcall (sane_spec _) ?_)
     | (with_reducible refine Rets.xcall (cf _) ?_)
     | (with_reducible refine Rets.xcall (c1 _) ?_)
     | (with_reducible refine Rets.xcall (c2 _) ?_)
     | (with_reducible refine Rets.xcall (c3 _) ?_)
     | (with_reducible refine Rets.xcall (c4 _) ?_)
     | (with_reducible refine Rets.xcall (s1 _) ?_)
     | (with_reducible refine Rets.xcall (s2 _) ?_)
     | (simp -dsimp -implicitDefEqProofs [*]))
    exact .same ⟨rfl, rfl⟩
end Go.Proofs.Ytgjgcflgjpigpaa
