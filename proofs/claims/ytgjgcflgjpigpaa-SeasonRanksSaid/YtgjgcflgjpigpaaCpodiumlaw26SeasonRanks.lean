/- The code of one function. -/
import Derived.Test.YtgjgcflgjpigpaaCode
import Derived.Test.YtgjgcflgjpigpaaS26ZN
set_option maxRecDepth 100000
namespace Go.Proofs.Ytgjgcflgjpigpaa
open Go.Pv
/-- podium/podiumlaw26.SeasonRanks -/
noncomputable def C.podiumlaw26_SeasonRanks : MFunc := ⟨110, 2, [.tmp 4],
  (.seq (.region [
    ⟨(some 4), none, .val (.mv (.const (.bool false)))⟩] [])
  (.seq (.seq (.region [
    ⟨(some 8), none, .call (.const (.func (.func F.podiumlaw26_sane) [] [])) []⟩,
    ⟨(some 9), none, .val (.un .not (.tmp 8))⟩] [8])
  (.cond (.tmp 9)
  (.seq (.region [
    ⟨(some 4), none, .val (.mv (.const (.bool false)))⟩] [])
  .ret)
  .skip))
  (.seq (.seq (.region [
    ⟨(some 10), none, .val (.mv (.tmp 0))⟩,
    ⟨(some 11), none, .val (.len (.tmp 10))⟩,
    ⟨(some 12), none, .val (.bin .gtr T.int (.tmp 11) (.const (.int 100)))⟩,
    ⟨(some 13), none, .val (.mv (.tmp 12))⟩,
    ⟨(some 14), (some (13, false)), .val (.mv (.tmp 1))⟩,
    ⟨(some 15), (some (13, false)), .val (.len (.tmp 14))⟩,
    ⟨(some 16), (some (13, false)), .val (.bin .gtr T.int (.tmp 15) (.const (.int 100)))⟩,
    ⟨(some 17), none, .val (.pick (.tmp 13) (.const (.bool true)) (.tmp 16))⟩,
    ⟨(some 18), none, .val (.mv (.tmp 17))⟩,
    ⟨(some 19), (some (18, false)), .val (.mv (.tmp 1))⟩,
    ⟨(some 20), (some (18, false)), .call (.const (.func (.func F.podiumref23_Check) [] [])) [(.tmp 19)]⟩,
    ⟨(some 21), (some (18, false)), .val (.bin .neq T.apiErrno (.tmp 20) (.const (.int 0)))⟩,
    ⟨(some 22), none, .val (.pick (.tmp 18) (.const (.bool true)) (.tmp 21))⟩] [10, 11, 12, 13, 14, 15, 16, 17, 18, 19, 20, 21])
  (.cond (.tmp 22)
  (.seq (.region [
    ⟨(some 4), none, .val (.mv (.const (.bool true)))⟩] [])
  .ret)
  .skip))
  (.seq (.region [
    ⟨(some 24), none, .val (.mv (.tmp 0))⟩,
    ⟨(some 25), none, .val (.mv (.tmp 1))⟩,
    ⟨(some 26), none, .call (.const (.func (.func F.season_Points) [] [])) [(.tmp 24), (.tmp 25)]⟩,
    ⟨(some 23), none, .val (.mv (.tmp 26))⟩,
    ⟨(some 27), none, .val (.extract 0 (.tmp 23))⟩,
    ⟨(some 28), none, .val (.extract 1 (.tmp 23))⟩,
    ⟨(some 5), none, .val (.mv (.tmp 27))⟩,
    ⟨(some 6), none, .val (.mv (.tmp 28))⟩] [24, 25, 26, 23, 27, 28])
  (.seq (.seq (.region [
    ⟨(some 29), none, .val (.mv (.tmp 6))⟩,
    ⟨(some 30), none, .val (.bin .neq T.apiErrno (.tmp 29) (.const (.int 0)))⟩] [29])
  (.cond (.tmp 30)
  (.seq (.region [
    ⟨(some 31), none, .val (.mv (.tmp 5))⟩,
    ⟨(some 32), none, .val (.len (.tmp 31))⟩,
    ⟨(some 33), none, .val (.bin .eql T.int (.tmp 32) (.const (.int 0)))⟩,
    ⟨(some 34), none, .val (.mv (.tmp 33))⟩,
    ⟨(some 35), (some (34, true)), .val (.mv (.tmp 6))⟩,
    ⟨(some 36), (some (34, true)), .val (.bin .eql T.apiErrno (.tmp 35) (.const (.int 2)))⟩,
    ⟨(some 37), (some (34, true)), .val (.mv (.tmp 36))⟩,
    ⟨(some 38), (some (37, false)), .val (.mv (.tmp 6))⟩,
    ⟨(some 39), (some (37, false)), .val (.bin .eql T.apiErrno (.tmp 38) (.const (.int 260)))⟩,
    ⟨(some 40), (some (34, true)), .val (.pick (.tmp 37) (.const (.bool true)) (.tmp 39))⟩,
    ⟨(some 41), none, .val (.pick (.tmp 34) (.tmp 40) (.const (.bool false)))⟩,
    ⟨(some 4), none, .val (.mv (.tmp 41))⟩] [31, 32, 33, 34, 35, 36, 37, 38, 39, 40, 41])
  .ret)
  .skip))
  (.seq (.seq (.region [
    ⟨(some 42), none, .val (.mv (.tmp 5))⟩,
    ⟨(some 43), none, .val (.len (.tmp 42))⟩,
    ⟨(some 44), none, .val (.mv (.tmp 1))⟩,
    ⟨(some 45), none, .val (.len (.tmp 44))⟩,
    ⟨(some 46), none, .val (.bin .neq T.int (.tmp 43) (.tmp 45))⟩] [42, 43, 44, 45])
  (.cond (.tmp 46)
  (.seq (.region [
    ⟨(some 4), none, .val (.mv (.const (.bool false)))⟩] [])
  .ret)
  .skip))
  (.seq (.seq (.region [
    ⟨(some 47), none, .val (.mv (.tmp 1))⟩,
    ⟨(some 48), none, .val (.len (.tmp 47))⟩,
    ⟨(some 49), none, .val (.mv (.const (.int 0)))⟩] [47])
  (.block 0 (.loop (.seq (.region [
    ⟨(some 50), none, .val (.bin .lss T.int (.tmp 49) (.tmp 48))⟩] [])
  (.seq (.cond (.tmp 50)
  .skip
  (.exit 0))
  (.seq (.block 1 (.seq (.region [
    ⟨(some 51), none, .val (.mv (.tmp 49))⟩,
    ⟨(some 7), none, .val (.mv (.tmp 51))⟩] [51])
  (.seq (.draw false (
    (.early, ⟨(some 52), none, .val (.mv (.tmp 1))⟩) ::
    (.early, ⟨(some 53), none, .val (.mv (.tmp 7))⟩) ::
    (.early, ⟨(some 54), none, .val (.indexAddr 3 (.tmp 52) (.tmp 53))⟩) ::
    (.early, ⟨(some 55), none, .val (.fieldAddr 1 (.tmp 54))⟩) ::
    (.early, ⟨(some 56), none, .val (.load 1 false (.tmp 55))⟩) ::
    (.early, ⟨(some 57), none, .val (.mv (.tmp 0))⟩) ::
    (.early, ⟨(some 58), none, .val (.len (.tmp 57))⟩) ::
    (.early, ⟨(some 59), none, .val (.bin .gtr T.int (.tmp 56) (.tmp 58))⟩) ::
    (.early, ⟨(some 60), none, .val (.mv (.tmp 59))⟩) ::
    (.early, ⟨(some 61), (some (60, true)), .val (.mv (.tmp 5))⟩) ::
    (.early, ⟨(some 62), (some (60, true)), .val (.mv (.tmp 7))⟩) ::
    (.early, ⟨(some 63), (some (60, true)), .val (.indexAddr 1 (.tmp 61) (.tmp 62))⟩) ::
    (.early, ⟨(some 64), (some (60, true)), .val (.load 1 false (.tmp 63))⟩) ::
    (.early, ⟨(some 65), (some (60, true)), .val (.bin .neq T.int (.tmp 64) (.const (.int 0)))⟩) ::
    (.early, ⟨(some 66), none, .val (.pick (.tmp 60) (.tmp 65) (.const (.bool false)))⟩) ::
    (.early, ⟨(some 67), none, .val (.mv (.tmp 66))⟩) ::
    (.early, ⟨(some 68), (some (67, false)), .val (.mv (.tmp 7))⟩) ::
    (.early, ⟨(some 69), (some (67, false)), .val (.bin .gtr T.int (.tmp 68) (.const (.int 0)))⟩) ::
    (.early, ⟨(some 70), (some (67, false)), .val (.mv (.tmp 69))⟩) ::
    (.early, ⟨(some 71), (some (70, true)), .val (.mv (.tmp 5))⟩) ::
    (.early, ⟨(some 72), (some (70, true)), .val (.mv (.tmp 7))⟩) ::
    (.early, ⟨(some 73), (some (70, true)), .val (.bin .sub T.int (.tmp 72) (.const (.int 1)))⟩) ::
    (.early, ⟨(some 74), (some (70, true)), .val (.indexAddr 1 (.tmp 71) (.tmp 73))⟩) ::
    (.early, ⟨(some 75), (some (70, true)), .val (.load 1 false (.tmp 74))⟩) ::
    (.early, ⟨(some 76), (some (70, true)), .val (.mv (.tmp 5))⟩) ::
    (.early, ⟨(some 77), (some (70, true)), .val (.mv (.tmp 7))⟩) ::
    (.early, ⟨(some 78), (some (70, true)), .val (.indexAddr 1 (.tmp 76) (.tmp 77))⟩) ::
    (.early, ⟨(some 79), (some (70, true)), .val (.load 1 false (.tmp 78))⟩) ::
    (.early, ⟨(some 80), (some (70, true)), .val (.bin .lss T.int (.tmp 75) (.tmp 79))⟩) ::
    (.early, ⟨(some 81), (some (70, true)), .val (.mv (.tmp 80))⟩) ::
    (.early, ⟨(some 82), (some (81, false)), .val (.mv (.tmp 1))⟩) ::
    (.early, ⟨(some 83), (some (81, false)), .val (.mv (.tmp 7))⟩) ::
    (.early, ⟨(some 84), (some (81, false)), .val (.bin .sub T.int (.tmp 83) (.const (.int 1)))⟩) ::
    (.early, ⟨(some 85), (some (81, false)), .val (.indexAddr 3 (.tmp 82) (.tmp 84))⟩) ::
    (.early, ⟨(some 86), (some (81, false)), .val (.fieldAddr 1 (.tmp 85))⟩) ::
    (.early, ⟨(some 87), (some (81, false)), .val (.load 1 false (.tmp 86))⟩) ::
    (.early, ⟨(some 88), (some (81, false)), .val (.mv (.tmp 1))⟩) ::
    (.early, ⟨(some 89), (some (81, false)), .val (.mv (.tmp 7))⟩) ::
    (.early, ⟨(some 90), (some (81, false)), .val (.indexAddr 3 (.tmp 88) (.tmp 89))⟩) ::
    (.early, ⟨(some 91), (some (81, false)), .val (.fieldAddr 1 (.tmp 90))⟩) ::
    (.early, ⟨(some 92), (some (81, false)), .val (.load 1 false (.tmp 91))⟩) ::
    (.early, ⟨(some 93), (some (81, false)), .val (.bin .eql T.int (.tmp 87) (.tmp 92))⟩) ::
    (.early, ⟨(some 94), (some (81, false)), .val (.mv (.tmp 93))⟩) ::
    (.early, ⟨(some 95), (some (94, true)), .val (.mv (.tmp 5))⟩) ::
    (.early, ⟨(some 96), (some (94, true)), .val (.mv (.tmp 7))⟩) ::
    (.early, ⟨(some 97), (some (94, true)), .val (.bin .sub T.int (.tmp 96) (.const (.int 1)))⟩) ::
    (.early, ⟨(some 98), (some (94, true)), .val (.indexAddr 1 (.tmp 95) (.tmp 97))⟩) ::
    (.early, ⟨(some 99), (some (94, true)), .val (.load 1 false (.tmp 98))⟩) ::
    (.early, ⟨(some 100), (some (94, true)), .val (.mv (.tmp 5))⟩) ::
    (.early, ⟨(some 101), (some (94, true)), .val (.mv (.tmp 7))⟩) ::
    (.early, ⟨(some 102), (some (94, true)), .val (.indexAddr 1 (.tmp 100) (.tmp 101))⟩) ::
    (.early, ⟨(some 103), (some (94, true)), .val (.load 1 false (.tmp 102))⟩) ::
    (.early, ⟨(some 104), (some (94, true)), .val (.bin .neq T.int (.tmp 99) (.tmp 103))⟩) ::
    (.early, ⟨(some 105), (some (81, false)), .val (.pick (.tmp 94) (.tmp 104) (.const (.bool false)))⟩) ::
    (.early, ⟨(some 106), (some (70, true)), .val (.pick (.tmp 81) (.const (.bool true)) (.tmp 105))⟩) ::
    (.early, ⟨(some 107), (some (67, false)), .val (.pick (.tmp 70) (.tmp 106) (.const (.bool false)))⟩) ::
    (.early, ⟨(some 108), none, .val (.pick (.tmp 67) (.const (.bool true)) (.tmp 107))⟩) :: []) (52 :: 53 :: 54 :: 55 :: 56 :: 57 :: 58 :: 59 :: 60 :: 61 :: 62 :: 63 :: 64 :: 65 :: 66 :: 67 :: 68 :: 69 :: 70 :: 71 :: 72 :: 73 :: 74 :: 75 :: 76 :: 77 :: 78 :: 79 :: 80 :: 81 :: 82 :: 83 :: 84 :: 85 :: 86 :: 87 :: 88 :: 89 :: 90 :: 91 :: 92 :: 93 :: 94 :: 95 :: 96 :: 97 :: 98 :: 99 :: 100 :: 101 :: 102 :: 103 :: 104 :: 105 :: 106 :: 107 :: []))
  (.cond (.tmp 108)
  (.seq (.region [
    ⟨(some 4), none, .val (.mv (.const (.bool false)))⟩] [])
  .ret)
  .skip))))
  (.region [
    ⟨(some 109), none, .val (.bin .add T.int (.tmp 49) (.const (.int 1)))⟩,
    ⟨(some 49), none, .val (.mv (.tmp 109))⟩] [109])))))))
  (.seq (.region [
    ⟨(some 4), none, .val (.mv (.const (.bool true)))⟩] [])
  .ret))))))))⟩
theorem H.podiumlaw26_SeasonRanks : Has P F.podiumlaw26_SeasonRanks C.podiumlaw26_SeasonRanks := ⟨Try.f6, Try.func6, by kernel_rfl, by kernel_rfl⟩
end Go.Proofs.Ytgjgcflgjpigpaa
/- Points, totals and records match the specification. -/
namespace Go.Proofs.Ytgjgcflgjpigpaa
open Go.Pv
set_option maxRecDepth 100000
set_option maxHeartbeats 8000000
end Go.Proofs.Ytgjgcflgjpigpaa
/- Points of ranks. -/
namespace Go.Proofs.Ytgjgcflgjpigpaa
open Go.Pv
set_option maxRecDepth 100000
set_option maxHeartbeats 8000000
theorem ranks_law (Q : List Int) (p : List Pl) (st : Store) : Rets P F.podiumlaw26_SeasonRanks [intLst false Q, Pl.lst false p] st (.bool true) := by
  refine H.podiumlaw26_SeasonRanks.view hmix rfl rfl ?_
  by_cases h1 : (100 : Int) < Q.length
  · repeat' (first 
     | (with_reducible refine Rets.xcall (sane_spec _) ?_)
     | (simp -dsimp -implicitDefEqProofs [*]))
    exact .same ⟨rfl, rfl⟩
  by_cases h2 : (100 : Int) < p.length
  · repeat' (first 
     | (with_reducible refine Rets.xcall (sane_spec _) ?_)
     | (simp -dsimp -implicitDefEqProofs [*]))
    exact .same ⟨rfl, rfl⟩
  have cr := rPlCheck_spec false p (plE_k p)
  by_cases he : plE p = 0
  case neg =>
    obtain ⟨e, ye⟩ : ∃ e, e = plE p := ⟨_, rfl⟩
    rw [← ye] at cr he
    clear ye
    repeat' (first 
     | (with_reducible refine Rets.xcall (sane_spec _) ?_)
     | (with_reducible refine Rets.xcall (cr _) ?_)
     | (simp -dsimp -implicitDefEqProofs [*]))
    exact .same ⟨rfl, rfl⟩
  rw [he] at cr
  have cp := points_spec false false Q (by omega) p (by omega)
  have k := pts_k Q p
  have hR := (plE_zero he).2
  have hc : (ptsE Q p = 2 ∧ ptsL Q p = []) ∨ (ptsE Q p = 260 ∧ ptsL Q p = []) ∨ (ptsE Q p = 0 ∧ ptsL Q p = (p.map fun x => ptOf Q x.rank) ∧ Fall Q ∧ ∀ x ∈ Q, 0 ≤ x) := by
    by_cases a1 : 64 < Q.length
    · exact .inl (k.k1 a1)
    cases a2 : Q.all amt with
    | false => exact .inr (.inl (k.k2 (by omega) (.inl a2)))
    | true =>
      cases a3 : fallB Q with
      | false => exact .inr (.inl (k.k2 (by omega) (.inr a3)))
      | true =>
        obtain ⟨e1, e2⟩ := k.k4 (by omega) a2 a3 he
        exact .inr (.inr ⟨e1, e2, fallB_iff.1 a3, fun x hx => (amt_iff.1 (List.all_eq_true.1 a2 x hx)).1⟩)
  obtain ⟨E, hE⟩ : ∃ E, E = ptsE Q p := ⟨_, rfl⟩
  obtain ⟨M, hM⟩ : ∃ M, M = ptsL Q p := ⟨_, rfl⟩
  rw [← hE, ← hM] at hc cp
  clear hE hM k he
  rcases hc with ⟨rfl, rfl⟩ | ⟨rfl, rfl⟩ | ⟨rfl, hM, hf, h0⟩
  · clear hR
    repeat' (first 
     | (with_reducible refine Rets.xcall (sane_spec _) ?_)
     | (with_reducible refine Rets.xcall (cr _) ?_)
     | (with_reducible refine Rets.xcall (cp _) ?_)
     | (simp -dsimp -implicitDefEqProofs [*]))
    exact .same ⟨rfl, rfl⟩
  · clear hR
    repeat' (first 
     | (with_reducible refine Rets.xcall (sane_spec _) ?_)
     | (with_reducible refine Rets.xcall (cr _) ?_)
     | (with_reducible refine Rets.xcall (cp _) ?_)
     | (simp -dsimp -implicitDefEqProofs [*]))
    exact .same ⟨rfl, rfl⟩
  have hml : M.length = p.length := by rw [hM]; simp
  have hat : ∀ n (h : n < p.length), Pl.at_ p n = p[n] := fun n h => by simp [Pl.at_, h]
  have hv : ∀ n (h : n < M.length), M[n] = ptOf Q (Pl.at_ p n).rank := fun n h => by
    subst hM
    rw [hat n (by omega)]
    simp
  have kA : Hid (∀ n (h : n < p.length) (h2 : n < M.length), (Q.length : Int) < p[n].rank → M[n] = 0) := ⟨fun n h h2 hlt => by
    rw [hv n h2, hat n h]; exact ptOf_late hlt⟩
  have kB : Hid (∀ k (h : k + 1 < p.length) (h2 : k + 1 < M.length), M[k + 1] ≤ M[k]) := ⟨fun k h h2 => by
    rw [hv (k + 1) h2, hv k (by omega)]
    have := Pl.rising hR (i := k + 1) (by omega) h
    exact ptOf_fall hf h0 (Pl.ranks hR k (by omega)).1 this⟩
  have kC : Hid (∀ k (h : k + 1 < p.length) (h2 : k + 1 < M.length), p[k].rank = p[k + 1].rank → M[k] = M[k + 1]) := ⟨fun k h h2 e => by
    rw [hv (k + 1) h2, hv k (by omega), hat k (by omega), hat (k + 1) h, e]⟩
  clear hM hf h0 hR hat hv
  repeat' (first 
   | (with_reducible refine Rets.xcall (sane_spec _) ?_)
   | (with_reducible refine Rets.xcall (cr _) ?_)
   | (with_reducible refine Rets.xcall (cp _) ?_)
   | (simp -dsimp -implicitDefEqProofs [*]))
  refine xloop_for (fun n : Nat => [(0, intLst false Q), (1, Pl.lst false p), (5, intLst false M), (48, .int p.length), (49, .int n)]) (fun _ => st) (fun n => n ≤ p.length) (fun n => p.length - n) 0 (Nat.zero_le _) (by simp) (.refl _) ?_
  clear cr cp
  intro n hn
  by_cases hnl : n < p.length
  · have hw := wrap_succ (n := n) (by omega)
    have hnm : n < M.length := by omega
    have kA := Hid.mk (kA.out n hnl hnm)
    cases n with
    | zero =>
      clear kB kC
      have g1 : (Pl.row p)[1]? = some (.int p[0].rank) := by have := Pl.row_get1 p 0 hnl; simpa using this
      have E1 : ∀ h, (Pl.row p)[1]'h = .int p[0].rank := fun h => by have := List.getElem?_eq_getElem h; rw [g1] at this; exact (Option.some.inj this).symm
      have m1 : (intRow M)[0]? = some (.int M[0]) := intRow_get M 0 hnm
      have M1 : ∀ h, (intRow M)[0]'h = .int M[0] := fun h => intRow_getE M 0 h
      have hk3 : 1 < p.length * 3 := by omega
      obtain ⟨x, hx⟩ : ∃ x, x = p[0] := ⟨_, rfl⟩
      obtain ⟨u, hu⟩ : ∃ u, u = M[0] := ⟨_, rfl⟩
      rw [← hx, ← hu] at kA
      rw [← hx] at g1 E1
      rw [← hu] at m1 M1
      clear hx hu
      by_cases hr : (Q.length : Int) < x.rank
      · have e := kA.out hr
        clear kA
        repeat' (simp -dsimp -implicitDefEqProofs [*])
        exact Next.intro 1 (by omega) (by omega) (by simp) (by repeat' (first | exact StLe.refl _ | (refine StLe_cons (by simp [*]; done) ?_) | (refine StLe_fresh (by simp [*]; done) ?_)))
      · clear kA
        repeat' (simp -dsimp -implicitDefEqProofs [*])
        exact Next.intro 1 (by omega) (by omega) (by simp) (by repeat' (first | exact StLe.refl _ | (refine StLe_cons (by simp [*]; done) ?_) | (refine StLe_fresh (by simp [*]; done) ?_)))
    | succ k =>
      have kB := Hid.mk (kB.out k hnl hnm)
      have kC := Hid.mk (kC.out k hnl hnm)
      have hkl : k < p.length := by omega
      have hkm : k < M.length := by omega
      have wk : IntKind.i64.wrap (((k + 1 : Nat) : Int) - 1) = (k : Int) := by rw [wrap_in (by omega) (by omega)]; omega
      have g1 := Pl.row_get1 p k hkl
      have E1 : ∀ h, (Pl.row p)[k * 3 + 1]'h = .int p[k].rank := fun h => by rw [Pl.row_getE1]
      have f1 := Pl.row_get1 p (k + 1) hnl
      have F1 : ∀ h, (Pl.row p)[(k + 1) * 3 + 1]'h = .int p[k + 1].rank := fun h => by rw [Pl.row_getE1]
      have hk3 : k * 3 + 1 < p.length * 3 ∧ (k + 1) * 3 + 1 < p.length * 3 := by omega
      have m1 : (intRow M)[k]? = some (.int M[k]) := intRow_get M k hkm
      have m2 : (intRow M)[k + 1]? = some (.int M[k + 1]) := intRow_get M (k + 1) hnm
      have M1 : ∀ h, (intRow M)[k]'h = .int M[k] := fun h => intRow_getE M k h
      have M2 : ∀ h, (intRow M)[k + 1]'h = .int M[k + 1] := fun h => intRow_getE M (k + 1) h
      obtain ⟨x, hx⟩ : ∃ x, x = p[k + 1] := ⟨_, rfl⟩
      obtain ⟨q, hq⟩ : ∃ q, q = p[k] := ⟨_, rfl⟩
      obtain ⟨u, hu⟩ : ∃ u, u = M[k + 1] := ⟨_, rfl⟩
      obtain ⟨w, hw2⟩ : ∃ w, w = M[k] := ⟨_, rfl⟩
      rw [← hx, ← hq, ← hu, ← hw2] at kC
      rw [← hu, ← hw2] at kB
      rw [← hx, ← hu] at kA
      rw [← hx] at f1 F1
      rw [← hq] at g1 E1
      rw [← hu] at m2 M2
      rw [← hw2] at m1 M1
      have hle := kB.out
      obtain ⟨n, hnk⟩ : ∃ n, n = k + 1 := ⟨_, rfl⟩
      rw [← hnk] at hw wk f1 F1 hk3 m2 M2 hnl hnm hn ⊢
      have hn0 : (0 : Int) < n := by omega
      clear hx hq hu hw2 kB hnk
      by_cases hr : (Q.length : Int) < x.rank
      · have e := kA.out hr
        clear kA
        by_cases hs : q.rank = x.rank
        · have e2 := kC.out hs
          clear kC
          repeat' (first 
           | (with_reducible refine And.intro (fun h => ?_) (fun h => ?_)) <;> (try (exfalso; omega))
           | (simp -dsimp -implicitDefEqProofs [*]))
          exact Next.intro (n + 1) (by omega) (by omega) (by simp) (by repeat' (first | exact StLe.refl _ | (refine StLe_cons (by simp [*]; done) ?_) | (refine StLe_fresh (by simp [*]; done) ?_)))
        · clear kC
          repeat' (first 
           | (with_reducible refine And.intro (fun h => ?_) (fun h => ?_)) <;> (try (exfalso; omega))
           | (simp -dsimp -implicitDefEqProofs [*]))
          exact Next.intro (n + 1) (by omega) (by omega) (by simp) (by repeat' (first | exact StLe.refl _ | (refine StLe_cons (by simp [*]; done) ?_) | (refine StLe_fresh (by simp [*]; done) ?_)))
      · clear kA
        by_cases hs : q.rank = x.rank
        · have e2 := kC.out hs
          clear kC
          repeat' (first 
           | (with_reducible refine And.intro (fun h => ?_) (fun h => ?_)) <;> (try (exfalso; omega))
           | (simp -dsimp -implicitDefEqProofs [*]))
          exact Next.intro (n + 1) (by omega) (by omega) (by simp) (by repeat' (first | exact StLe.refl _ | (refine StLe_cons (by simp [*]; done) ?_) | (refine StLe_fresh (by simp [*]; done) ?_)))
        · clear kC
          repeat' (first 
           | (with_reducible refine And.intro (fun h => ?_) (fun h => ?_)) <;> (try (exfalso; omega))
           | (with_reducible refine And.intro (fun h => ?_) ?_) <;> (try (exfalso; omega))
           | (simp -dsimp -implicitDefEqProofs [*]))
          exact Next.intro (n + 1) (by omega) (by omega) (by simp) (by repeat' (first | exact StLe.refl _ | (refine StLe_cons (by simp [*]; done) ?_) | (refine StLe_fresh (by simp [*]; done) ?_)))
  · obtain rfl : n = p.length := by omega
    clear kA kB kC
    repeat' (simp -dsimp -implicitDefEqProofs [*])
    exact .same ⟨rfl, rfl⟩
end Go.Proofs.Ytgjgcflgjpigpaa
