/- The code of one function. -/
import Derived.Test.YthkjdppifnmakaaCode
import Derived.Test.YthkjdppifnmakaaS51ZA
set_option maxRecDepth 100000
namespace Go.Proofs.Ythkjdppifnmakaa
open Go.Pv
/-- podium/podiumlaw51.AppealsLast -/
noncomputable def C.podiumlaw51_AppealsLast : MFunc := ⟨128, 3, [.tmp 6],
  (.seq (.region [
    ⟨(some 6), none, .val (.mv (.const (.bool false)))⟩] [])
  (.seq (.seq (.region [
    ⟨(some 16), none, .call (.const (.func (.func F.podiumlaw51_sane) [] [])) []⟩,
    ⟨(some 17), none, .val (.un .not (.tmp 16))⟩] [16])
  (.cond (.tmp 17)
  (.seq (.region [
    ⟨(some 6), none, .val (.mv (.const (.bool false)))⟩] [])
  .ret)
  .skip))
  (.seq (.seq (.region [
    ⟨(some 18), none, .val (.mv (.tmp 0))⟩,
    ⟨(some 19), none, .val (.mv (.tmp 1))⟩,
    ⟨(some 20), none, .call (.const (.func (.func F.podiumref51_Few) [] [])) [(.tmp 18), (.tmp 19)]⟩,
    ⟨(some 21), none, .val (.un .not (.tmp 20))⟩] [18, 19, 20])
  (.cond (.tmp 21)
  (.seq (.region [
    ⟨(some 6), none, .val (.mv (.const (.bool true)))⟩] [])
  .ret)
  .skip))
  (.seq (.region [
    ⟨(some 23), none, .val (.mv (.tmp 0))⟩,
    ⟨(some 24), none, .val (.mv (.tmp 1))⟩,
    ⟨(some 25), none, .val (.mv (.tmp 2))⟩,
    ⟨(some 26), none, .call (.const (.func (.func F.appeals_Apply) [] [])) [(.tmp 23), (.tmp 24), (.tmp 25)]⟩,
    ⟨(some 22), none, .val (.mv (.tmp 26))⟩,
    ⟨(some 27), none, .val (.extract 0 (.tmp 22))⟩,
    ⟨(some 28), none, .val (.extract 1 (.tmp 22))⟩,
    ⟨(some 7), none, .val (.mv (.tmp 27))⟩,
    ⟨(some 8), none, .val (.mv (.tmp 28))⟩] [23, 24, 25, 26, 22, 27, 28])
  (.seq (.region [
    ⟨(some 30), none, .val (.mv (.tmp 1))⟩,
    ⟨(some 31), none, .val (.mv (.tmp 2))⟩,
    ⟨(some 32), none, .call (.const (.func (.func F.appeals_Standing) [] [])) [(.tmp 30), (.tmp 31)]⟩,
    ⟨(some 29), none, .val (.mv (.tmp 32))⟩,
    ⟨(some 33), none, .val (.extract 0 (.tmp 29))⟩,
    ⟨(some 34), none, .val (.extract 1 (.tmp 29))⟩,
    ⟨(some 9), none, .val (.mv (.tmp 33))⟩,
    ⟨(some 10), none, .val (.mv (.tmp 34))⟩] [30, 31, 32, 29, 33, 34])
  (.seq (.seq (.region [
    ⟨(some 35), none, .val (.mv (.tmp 8))⟩,
    ⟨(some 36), none, .val (.bin .neq T.apiErrno (.tmp 35) (.const (.int 0)))⟩,
    ⟨(some 37), none, .val (.mv (.tmp 36))⟩,
    ⟨(some 38), (some (37, false)), .val (.mv (.tmp 10))⟩,
    ⟨(some 39), (some (37, false)), .val (.bin .neq T.apiErrno (.tmp 38) (.const (.int 0)))⟩,
    ⟨(some 40), none, .val (.pick (.tmp 37) (.const (.bool true)) (.tmp 39))⟩] [35, 36, 37, 38, 39])
  (.cond (.tmp 40)
  (.seq (.region [
    ⟨(some 6), none, .val (.mv (.const (.bool true)))⟩] [])
  .ret)
  .skip))
  (.seq (.seq (.region [
    ⟨(some 11), none, .val (.mv (.const (.int 0)))⟩] [])
  (.block 0 (.loop (.seq (.seq (.region [
    ⟨(some 41), none, .val (.mv (.tmp 11))⟩,
    ⟨(some 42), none, .val (.mv (.tmp 9))⟩,
    ⟨(some 43), none, .val (.len (.tmp 42))⟩,
    ⟨(some 44), none, .val (.bin .lss T.int (.tmp 41) (.tmp 43))⟩] [41, 42, 43])
  (.cond (.tmp 44)
  .skip
  (.exit 0)))
  (.seq (.block 1 (.seq (.region [
    ⟨(some 47), none, .val (.mv (.tmp 9))⟩,
    ⟨(some 48), none, .val (.mv (.tmp 11))⟩,
    ⟨(some 49), none, .val (.indexAddr 14 (.tmp 47) (.tmp 48))⟩,
    ⟨(some 50), none, .val (.load 14 true (.tmp 49))⟩,
    ⟨(some 51), none, .call (.const (.func (.func F.podiumref51_Subject) [] [])) [(.tmp 50)]⟩,
    ⟨(some 12), none, .val (.mv (.tmp 51))⟩] [47, 48, 49, 50, 51])
  (.seq (.region [
    ⟨(some 52), none, .val (.mv (.tmp 9))⟩,
    ⟨(some 53), none, .val (.mv (.tmp 12))⟩,
    ⟨(some 54), none, .call (.const (.func (.func F.podiumlaw51_about) [] [])) [(.tmp 52), (.tmp 53)]⟩,
    ⟨(some 13), none, .val (.mv (.tmp 54))⟩] [52, 53, 54])
  (.seq (.seq (.region [
    ⟨(some 55), none, .val (.mv (.tmp 13))⟩,
    ⟨(some 56), none, .val (.len (.tmp 55))⟩,
    ⟨(some 57), none, .val (.bin .eql T.int (.tmp 56) (.const (.int 0)))⟩] [55, 56])
  (.cond (.tmp 57)
  (.seq (.region [
    ⟨(some 6), none, .val (.mv (.const (.bool false)))⟩] [])
  .ret)
  .skip))
  (.seq (.region [
    ⟨(some 58), none, .val (.mv (.tmp 13))⟩,
    ⟨(some 59), none, .val (.mv (.tmp 13))⟩,
    ⟨(some 60), none, .val (.len (.tmp 59))⟩,
    ⟨(some 61), none, .val (.bin .sub T.int (.tmp 60) (.const (.int 1)))⟩,
    ⟨(some 62), none, .val (.indexAddr 14 (.tmp 58) (.tmp 61))⟩,
    ⟨(some 63), none, .val (.load 14 true (.tmp 62))⟩,
    ⟨(some 14), none, .alloc T.apiDecision [(.int 0), (.int 0), (.int 0), (.int 0), (.int 0), (.int 0), (.int 0), (.int 0), (.int 0), (.int 0), (.int 0), (.int 0), (.int 0), (.int 0)]⟩,
    ⟨none, none, .store 14 (.tmp 14) (.tmp 63)⟩] [58, 59, 60, 61, 62, 63])
  (.seq (.region [
    ⟨(some 64), none, .val (.mv (.tmp 7))⟩,
    ⟨(some 65), none, .val (.mv (.tmp 12))⟩,
    ⟨(some 66), none, .call (.const (.func (.func F.podiumlaw51_alone) [] [])) [(.tmp 64), (.tmp 65)]⟩,
    ⟨(some 15), none, .val (.mv (.tmp 66))⟩] [64, 65, 66])
  (.seq (.region [
    ⟨(some 67), none, .val (.fieldAddr 2 (.tmp 14))⟩,
    ⟨(some 68), none, .val (.load 1 false (.tmp 67))⟩] [67])
  (.block 2 (.seq (.region [
    ⟨(some 70), none, .val (.bin .eql T.int (.tmp 68) (.const (.int 1)))⟩,
    ⟨(some 69), none, .val (.mv (.tmp 70))⟩] [70])
  (.cond (.tmp 69)
  (.seq (.region [
    ⟨(some 71), none, .val (.mv (.tmp 15))⟩,
    ⟨(some 72), none, .val (.len (.tmp 71))⟩,
    ⟨(some 73), none, .val (.bin .gtr T.int (.tmp 72) (.const (.int 0)))⟩] [71, 72])
  (.cond (.tmp 73)
  (.seq (.region [
    ⟨(some 6), none, .val (.mv (.const (.bool false)))⟩] [])
  .ret)
  .skip))
  (.seq (.region [
    ⟨(some 75), none, .val (.bin .eql T.int (.tmp 68) (.const (.int 3)))⟩,
    ⟨(some 74), none, .val (.mv (.tmp 75))⟩] [75])
  (.cond (.tmp 74)
  (.seq (.draw false [
    (.early, ⟨(some 76), none, .val (.mv (.tmp 15))⟩),
    (.early, ⟨(some 77), none, .val (.len (.tmp 76))⟩),
    (.early, ⟨(some 78), none, .val (.bin .neq T.int (.tmp 77) (.const (.int 1)))⟩),
    (.early, ⟨(some 79), none, .val (.mv (.tmp 78))⟩),
    (.early, ⟨(some 80), (some (79, false)), .val (.mv (.tmp 13))⟩),
    (.early, ⟨(some 81), (some (79, false)), .val (.len (.tmp 80))⟩),
    (.early, ⟨(some 82), (some (79, false)), .val (.bin .gtr T.int (.tmp 81) (.const (.int 1)))⟩),
    (.early, ⟨(some 83), (some (79, false)), .val (.mv (.tmp 82))⟩),
    (.early, ⟨(some 84), (some (83, true)), .val (.mv (.tmp 13))⟩),
    (.early, ⟨(some 85), (some (83, true)), .val (.mv (.tmp 13))⟩),
    (.early, ⟨(some 86), (some (83, true)), .val (.len (.tmp 85))⟩),
    (.early, ⟨(some 87), (some (83, true)), .val (.bin .sub T.int (.tmp 86) (.const (.int 2)))⟩),
    (.early, ⟨(some 88), (some (83, true)), .val (.indexAddr 14 (.tmp 84) (.tmp 87))⟩),
    (.early, ⟨(some 89), (some (83, true)), .val (.fieldAddr 2 (.tmp 88))⟩),
    (.early, ⟨(some 90), (some (83, true)), .val (.load 1 false (.tmp 89))⟩),
    (.early, ⟨(some 91), (some (83, true)), .val (.bin .eql T.int (.tmp 90) (.const (.int 1)))⟩),
    (.early, ⟨(some 92), (some (79, false)), .val (.pick (.tmp 83) (.tmp 91) (.const (.bool false)))⟩),
    (.early, ⟨(some 93), (some (79, false)), .val (.mv (.tmp 92))⟩),
    (.early, ⟨(some 94), (some (93, true)), .val (.mv (.tmp 15))⟩),
    (.early, ⟨(some 95), (some (93, true)), .val (.indexAddr 9 (.tmp 94) (.const (.int 0)))⟩),
    (.early, ⟨(some 96), (some (93, true)), .val (.load 9 true (.tmp 95))⟩),
    (.early, ⟨(some 97), (some (93, true)), .val (.fieldAddr 5 (.tmp 14))⟩),
    (.early, ⟨(some 98), (some (93, true)), .val (.load 9 true (.tmp 97))⟩),
    (.early, ⟨(some 99), (some (93, true)), .val (.eqAgg true [.int, .int, .int, .int, .int, .int, .int, .int, .int] (.tmp 96) (.tmp 98))⟩),
    (.early, ⟨(some 100), (some (79, false)), .val (.pick (.tmp 93) (.tmp 99) (.const (.bool false)))⟩),
    (.early, ⟨(some 101), none, .val (.pick (.tmp 79) (.const (.bool true)) (.tmp 100))⟩)] [76, 77, 78, 79, 80, 81, 82, 83, 84, 85, 86, 87, 88, 89, 90, 91, 92, 93, 94, 95, 96, 97, 98, 99, 100])
  (.cond (.tmp 101)
  (.seq (.region [
    ⟨(some 6), none, .val (.mv (.const (.bool false)))⟩] [])
  .ret)
  .skip))
  (.seq (.region [
    ⟨(some 103), none, .val (.bin .eql T.int (.tmp 68) (.const (.int 2)))⟩,
    ⟨(some 102), none, .val (.mv (.tmp 103))⟩] [103])
  (.cond (.tmp 102)
  (.seq (.draw false [
    (.early, ⟨(some 104), none, .val (.mv (.tmp 15))⟩),
    (.early, ⟨(some 105), none, .val (.len (.tmp 104))⟩),
    (.early, ⟨(some 106), none, .val (.bin .gtr T.int (.tmp 105) (.const (.int 1)))⟩),
    (.early, ⟨(some 107), none, .val (.mv (.tmp 106))⟩),
    (.early, ⟨(some 108), (some (107, false)), .val (.mv (.tmp 15))⟩),
    (.early, ⟨(some 109), (some (107, false)), .val (.len (.tmp 108))⟩),
    (.early, ⟨(some 110), (some (107, false)), .val (.bin .eql T.int (.tmp 109) (.const (.int 1)))⟩),
    (.early, ⟨(some 111), (some (107, false)), .val (.mv (.tmp 110))⟩),
    (.early, ⟨(some 112), (some (111, true)), .val (.mv (.tmp 15))⟩),
    (.early, ⟨(some 113), (some (111, true)), .val (.indexAddr 9 (.tmp 112) (.const (.int 0)))⟩),
    (.early, ⟨(some 114), (some (111, true)), .val (.fieldAddr 1 (.tmp 113))⟩),
    (.early, ⟨(some 115), (some (111, true)), .val (.load 1 false (.tmp 114))⟩),
    (.early, ⟨(some 116), (some (111, true)), .val (.bin .eql T.int (.tmp 115) (.const (.int 1)))⟩),
    (.early, ⟨(some 117), (some (107, false)), .val (.pick (.tmp 111) (.tmp 116) (.const (.bool false)))⟩),
    (.early, ⟨(some 118), (some (107, false)), .val (.mv (.tmp 117))⟩),
    (.early, ⟨(some 119), (some (118, true)), .val (.mv (.tmp 15))⟩),
    (.early, ⟨(some 120), (some (118, true)), .val (.indexAddr 9 (.tmp 119) (.const (.int 0)))⟩),
    (.early, ⟨(some 121), (some (118, true)), .val (.fieldAddr 6 (.tmp 120))⟩),
    (.early, ⟨(some 122), (some (118, true)), .val (.load 1 false (.tmp 121))⟩),
    (.early, ⟨(some 123), (some (118, true)), .val (.fieldAddr 4 (.tmp 14))⟩),
    (.early, ⟨(some 124), (some (118, true)), .val (.load 1 false (.tmp 123))⟩),
    (.early, ⟨(some 125), (some (118, true)), .val (.bin .neq T.int (.tmp 122) (.tmp 124))⟩),
    (.early, ⟨(some 126), (some (107, false)), .val (.pick (.tmp 118) (.tmp 125) (.const (.bool false)))⟩),
    (.early, ⟨(some 127), none, .val (.pick (.tmp 107) (.const (.bool true)) (.tmp 126))⟩)] [104, 105, 106, 107, 108, 109, 110, 111, 112, 113, 114, 115, 116, 117, 118, 119, 120, 121, 122, 123, 124, 125, 126])
  (.cond (.tmp 127)
  (.seq (.region [
    ⟨(some 6), none, .val (.mv (.const (.bool false)))⟩] [])
  .ret)
  .skip))
  .skip))))))))))))))
  (.region [
    ⟨(some 45), none, .val (.mv (.tmp 11))⟩,
    ⟨(some 46), none, .val (.bin .add T.int (.tmp 45) (.const (.int 1)))⟩,
    ⟨(some 11), none, .val (.mv (.tmp 46))⟩] [45, 46]))))))
  (.seq (.region [
    ⟨(some 6), none, .val (.mv (.const (.bool true)))⟩] [])
  .ret))))))))⟩
theorem H.podiumlaw51_AppealsLast : Has P F.podiumlaw51_AppealsLast C.podiumlaw51_AppealsLast := ⟨Try.f8, Try.func8, by kernel_rfl, by kernel_rfl⟩
end Go.Proofs.Ythkjdppifnmakaa
/- AppealsLast. -/
namespace Go.Proofs.Ythkjdppifnmakaa
open Go.Pv
set_option maxRecDepth 100000
set_option maxHeartbeats 4000000
theorem alone_list {x : List Event} (h : ok x) (n : Int) : aloneL x n = (evO x n).toList := by
  have hp : (aloneL x n).Pairwise fun a b => a.no < b.no := h.2.filter _
  have hm : ∀ e, e ∈ aloneL x n ↔ evO x n = some e := fun e => by rw [evO_iff h]; unfold aloneL; rw [List.mem_filter]; simp
  have hn : ∀ e ∈ aloneL x n, e.no = n := fun e he => ((evO_iff h).1 ((hm e).1 he)).2
  generalize aloneL x n = L at *
  match L, hp, hm, hn with
  | [], _, hm, _ =>
    cases ho : evO x n with
    | none => rfl
    | some e => exact absurd ((hm e).2 ho) (by simp)
  | [a], _, hm, _ => rw [(hm a).1 (by simp)]; rfl
  | a :: b :: L, hp, _, hn =>
    have h1 := (List.pairwise_cons.1 hp).1 b (by simp)
    have h2 := hn a (by simp)
    have h3 := hn b (by simp)
    omega
theorem last_fold {D : List Decision} {n : Nat} (h : D.length = n + 1) (o : Option Event) : D.foldl stepO o = stepO ((D.take n).foldl stepO o) (D[n]'(by omega)) := by
  have e : D = D.take n ++ [D[n]'(by omega)] := by
    rw [← List.take_succ_eq_append_getElem (by omega), List.take_of_length_le (by omega)]
  conv => lhs; rw [e]
  rw [List.foldl_append]
  rfl
theorem mark_right {e : Event} {v : Int} (h : rightE e = true) (hk : e.kind = 1) (hv : 0 ≤ v ∧ v ≤ 1000) : rightE (setVal e v) = true := by
  unfold rightE at *
  unfold setVal
  simp [hk, itemOK, btw] at h ⊢
  omega
/-- What becomes of the event that a list of decisions is about. -/
structure LastF (D : List Decision) (n : Nat) (hn : D.length = n + 1) (L : List Event) : Prop where
  strike : (D[n]'(by omega)).kind = 1 → L = []
  add : (D[n]'(by omega)).kind = 3 → ∃ e, L = [e] ∧ ∀ m (hm : n = m + 1), (D[m]'(by omega)).kind = 1 → e = (D[n]'(by omega)).event
  alter : (D[n]'(by omega)).kind = 2 → L = [] ∨ ∃ e, L = [e] ∧ (e.kind = 1 → e.value = (D[n]'(by omega)).value)
  kind : (D[n]'(by omega)).kind = 1 ∨ (D[n]'(by omega)).kind = 2 ∨ (D[n]'(by omega)).kind = 3
theorem lastF_of {D : List Decision} {n : Nat} (hn : D.length = n + 1) (o0 : Option Event) (hval : validD (D[n]'(by omega)) = true)
    (hk : (D[n]'(by omega)).kind = 1 ∨ (D[n]'(by omega)).kind = 2 ∨ (D[n]'(by omega)).kind = 3) (hO : RightO ((D.take n).foldl stepO o0)) : LastF D n hn (D.foldl stepO o0).toList := by
  rw [last_fold hn]
  generalize hoo : (D.take n).foldl stepO o0 = o at *
  refine ⟨fun hk => ?_, fun hk => ?_, fun hk => ?_, hk⟩
  · simp [stepO, hk]
  · have hprev : ∀ m (hm : n = m + 1), (D[m]'(by omega)).kind = 1 → o = none := fun m hm hkm => by
      subst hm
      rw [← hoo, last_fold (n := m) (by rw [List.length_take]; omega)]
      simp [stepO, hkm]
    cases o with
    | none => exact ⟨(D[n]'(by omega)).event, by simp [stepO, hk], fun _ _ _ => rfl⟩
    | some e =>
      refine ⟨e, by simp [stepO, hk], fun m hm hkm => ?_⟩
      have := hprev m hm hkm
      cases this
  · cases o with
    | none => exact .inl (by simp [stepO, hk])
    | some e =>
      refine .inr ?_
      by_cases hr : rightE (setVal e (D[n]'(by omega)).value) = true
      · exact ⟨setVal e (D[n]'(by omega)).value, by simp [stepO, hk, hr], fun _ => rfl⟩
      · refine ⟨e, by simp [stepO, hk, hr], fun hek => ?_⟩
        have hv := validD_right hval
        simp [rightD, hk, alterD] at hv
        exact absurd (mark_right (hO e rfl) hek ⟨hv.1.2, hv.2⟩) hr
theorem Made.last {l : List Event} {d : List Decision} {t : Int} {x : List Event} (h : Made l d t x) (no : Int) {n : Nat} (hn : (aboutL (standL d t) no).length = n + 1) : LastF (aboutL (standL d t) no) n hn (aloneL x no) := by
  have hmem : (aboutL (standL d t) no)[n]'(by omega) ∈ aboutL (standL d t) no := List.getElem_mem _
  rw [alone_list h.ok, h.evEq no]
  exact lastF_of hn _ (h.decs.2.1 _ (standL_sub (List.mem_filter.1 hmem).1)) (standL_kind _ (List.mem_filter.1 hmem).1)
    ((RightO.ev h.evs.2 no).fold fun e he => validD_right (h.decs.2.1 e (standL_sub (List.mem_filter.1 (List.mem_of_mem_take he)).1)))
theorem last_law (ta tb : Bool) (l : List Event) (d : List Decision) (t : Int) (st : Store) : Rets P F.podiumlaw51_AppealsLast [Event.lst ta l, Decision.lst tb d, .int t] st (.bool true) := by
  refine (H.podiumlaw51_AppealsLast).pure hmix rfl rfl ?_
  have hfew := few_spec ta tb l d
  cases hf : fewN l.length d.length with
  | false =>
    rw [hf] at hfew
    repeat' (first
      | (with_reducible refine Fresh.intro fun b hb => ?_) <;> (try simp -dsimp -implicitDefEqProofs [*] at hb)
      | (with_reducible refine Rets.xcall (sane_spec _) ?_)
      | (with_reducible refine Rets.xsoft (sane_spec _) ?_)
      | (with_reducible refine xlateCall_of (fun _ => sane_spec _) ?_)
      | (with_reducible refine Rets.xcall (hfew _) ?_)
      | (with_reducible refine Rets.xsoft (hfew _) ?_)
      | (with_reducible refine xlateCall_of (fun _ => hfew _) ?_)
      | (with_reducible refine Lit.imm ?_)
      | ((with_reducible refine Grow.intro ?_ fun b cap hb hc1 hc2 => ?_); omega) <;> (try simp -dsimp -implicitDefEqProofs [*] at hb)
      | (with_reducible refine DrawLate.intro [] ?_)
      | (with_reducible refine Cls_and ?_ ?_)
      | (with_reducible exact Cls.self _ _)
      | (with_reducible refine Cls_same ?_)
      | (with_reducible refine Cls_in ?_ ?_)
      | (with_reducible refine Cls_fresh ?_ ?_)
      | (with_reducible refine And.intro (fun h => ?_) (fun h => ?_)) <;> (try (exfalso; omega))
      | (with_reducible refine And.intro (fun h => ?_) ?_) <;> (try (exfalso; omega))
      | ((with_reducible refine and_keep ?_ fun hk => ?_); omega)
      | (simp -dsimp -implicitDefEqProofs [*]))
  | true =>
    rw [hf] at hfew
    have hd := few_d hf
    have hlen := few_e hf
    have hap := fun st => apply_spec ta tb l d t hd st
    have hst := fun st => standing_spec tb d t hd st
    by_cases hN : applyN l d t = 0
    · have M := made hN
      have hX : (applyL l d t).length ≤ 4096 := M.len
      rw [hN] at hap
      rw [M.dec] at hst
      generalize applyL l d t = X at *
      have FF : ∀ no n (hn : (aboutL (standL d t) no).length = n + 1), LastF (aboutL (standL d t) no) n hn (aloneL X no) := fun no n hn => M.last no hn
      have hA : (standL d t).length ≤ 4200 := Nat.le_trans standL_len hlen.2
      generalize standL d t = A at *
      have B : ∀ no st, Rets P F.podiumlaw51_about [Decision.lst false A, .int no] st (Decision.lst false (aboutL A no)) := fun no st => about_spec false A (by omega) no st
      have A2 : ∀ no st, Rets P F.podiumlaw51_alone [Event.lst false X, .int no] st (Event.lst false (aloneL X no)) := fun no st => alone_spec false X (by omega) no st
      clear M hN hf hd
      repeat' (first
        | (with_reducible refine Fresh.intro fun b hb => ?_) <;> (try simp -dsimp -implicitDefEqProofs [*] at hb)
        | (with_reducible refine Rets.xcall (sane_spec _) ?_)
        | (with_reducible refine Rets.xsoft (sane_spec _) ?_)
        | (with_reducible refine xlateCall_of (fun _ => sane_spec _) ?_)
        | (with_reducible refine Rets.xcall (hfew _) ?_)
        | (with_reducible refine Rets.xsoft (hfew _) ?_)
        | (with_reducible refine xlateCall_of (fun _ => hfew _) ?_)
        | (with_reducible refine Rets.xcall (hap _) ?_)
        | (with_reducible refine Rets.xsoft (hap _) ?_)
        | (with_reducible refine xlateCall_of (fun _ => hap _) ?_)
        | (with_reducible refine Rets.xcall (hst _) ?_)
        | (with_reducible refine Rets.xsoft (hst _) ?_)
        | (with_reducible refine xlateCall_of (fun _ => hst _) ?_)
        | (with_reducible refine Lit.imm ?_)
        | ((with_reducible refine Grow.intro ?_ fun b cap hb hc1 hc2 => ?_); omega) <;> (try simp -dsimp -implicitDefEqProofs [*] at hb)
        | (with_reducible refine DrawLate.intro [] ?_)
        | (with_reducible refine Cls_and ?_ ?_)
        | (with_reducible exact Cls.self _ _)
        | (with_reducible refine Cls_same ?_)
        | (with_reducible refine Cls_in ?_ ?_)
        | (with_reducible refine Cls_fresh ?_ ?_)
        | (with_reducible refine And.intro (fun h => ?_) (fun h => ?_)) <;> (try (exfalso; omega))
        | (with_reducible refine And.intro (fun h => ?_) ?_) <;> (try (exfalso; omega))
        | ((with_reducible refine and_keep ?_ fun hk => ?_); omega)
        | (simp -dsimp -implicitDefEqProofs [*]))
      clear hfew hap hst
      refine xloop_for (fun y : Nat => [(7, Event.lst false X), (9, Decision.lst false A), (11, .int (y : Nat))]) (fun _ => st) (fun y => y ≤ A.length) (fun y => A.length - y) 0 (Nat.zero_le _) (by simp) (by simp) ?_
      intro i hi
      have hw := wrap_succ (n := i) (by omega)
      by_cases hil : i < A.length
      · have hne : aboutL A (subj A[i]) ≠ [] := fun e => by
          have : A[i] ∈ aboutL A (subj A[i]) := List.mem_filter.2 ⟨List.getElem_mem _, by simp⟩
          rw [e] at this; simp at this
        have hle : (aboutL A (subj A[i])).length ≤ A.length := List.length_filter_le ..
        have hB := fun st => B (subj A[i]) st
        have hA2 := fun st => A2 (subj A[i]) st
        have hFF := FF (subj A[i])
        generalize aboutL A (subj A[i]) = S at *
        generalize aloneL X (subj A[i]) = L at *
        obtain ⟨n, hn⟩ : ∃ n, S.length = n + 1 := ⟨S.length - 1, by have := List.length_pos_iff.2 hne; omega⟩
        have hF := hFF n hn
        clear hFF FF B A2
        obtain ⟨f1, f3, f2, hk⟩ := hF
        have hw1 : IntKind.i64.wrap ((n : Nat) : Int) = n := wrap_nat (by omega)
        have hnl : n < S.length := by omega
        rcases hk with hk | hk | hk
        · have hL := f1 hk
          subst hL
          clear f1 f2 f3
          repeat' (first
            | (with_reducible refine Fresh.intro fun b hb => ?_) <;> (try simp -dsimp -implicitDefEqProofs [*] at hb)
            | (with_reducible refine Rets.xcall (subject_spec _ _) ?_)
            | (with_reducible refine Rets.xsoft (subject_spec _ _) ?_)
            | (with_reducible refine xlateCall_of (fun _ => subject_spec _ _) ?_)
            | (with_reducible refine Rets.xcall (hB _) ?_)
            | (with_reducible refine Rets.xsoft (hB _) ?_)
            | (with_reducible refine xlateCall_of (fun _ => hB _) ?_)
            | (with_reducible refine Rets.xcall (hA2 _) ?_)
            | (with_reducible refine Rets.xsoft (hA2 _) ?_)
            | (with_reducible refine xlateCall_of (fun _ => hA2 _) ?_)
            | (with_reducible refine Lit.imm ?_)
            | ((with_reducible refine Grow.intro ?_ fun b cap hb hc1 hc2 => ?_); omega) <;> (try simp -dsimp -implicitDefEqProofs [*] at hb)
            | (with_reducible refine DrawLate.intro [] ?_)
            | (with_reducible refine Cls_and ?_ ?_)
            | (with_reducible exact Cls.self _ _)
            | (with_reducible refine Cls_same ?_)
            | (with_reducible refine Cls_in ?_ ?_)
            | (with_reducible refine Cls_fresh ?_ ?_)
            | (with_reducible refine And.intro (fun h => ?_) (fun h => ?_)) <;> (try (exfalso; omega))
            | (with_reducible refine And.intro (fun h => ?_) ?_) <;> (try (exfalso; omega))
            | ((with_reducible refine and_keep ?_ fun hk => ?_); omega)
            | (simp -dsimp -implicitDefEqProofs [*]))
          exact Next.intro (i + 1) (by omega) (by omega) (by simp) (by repeat' (first | exact StLe.refl _ | (refine StLe_cons (by simp [*]; done) ?_) | (refine StLe_fresh (by simp [*]; done) ?_)))
        · rcases f2 hk with hL | ⟨e, hL, he⟩
          · subst hL
            clear f1 f2 f3
            repeat' (first
              | (with_reducible refine Fresh.intro fun b hb => ?_) <;> (try simp -dsimp -implicitDefEqProofs [*] at hb)
              | (with_reducible refine Rets.xcall (subject_spec _ _) ?_)
              | (with_reducible refine Rets.xsoft (subject_spec _ _) ?_)
              | (with_reducible refine xlateCall_of (fun _ => subject_spec _ _) ?_)
              | (with_reducible refine Rets.xcall (hB _) ?_)
              | (with_reducible refine Rets.xsoft (hB _) ?_)
              | (with_reducible refine xlateCall_of (fun _ => hB _) ?_)
              | (with_reducible refine Rets.xcall (hA2 _) ?_)
              | (with_reducible refine Rets.xsoft (hA2 _) ?_)
              | (with_reducible refine xlateCall_of (fun _ => hA2 _) ?_)
              | (with_reducible refine Lit.imm ?_)
              | ((with_reducible refine Grow.intro ?_ fun b cap hb hc1 hc2 => ?_); omega) <;> (try simp -dsimp -implicitDefEqProofs [*] at hb)
              | (with_reducible refine DrawLate.intro [] ?_)
              | (with_reducible refine Cls_and ?_ ?_)
              | (with_reducible exact Cls.self _ _)
              | (with_reducible refine Cls_same ?_)
              | (with_reducible refine Cls_in ?_ ?_)
              | (with_reducible refine Cls_fresh ?_ ?_)
              | (with_reducible refine And.intro (fun h => ?_) (fun h => ?_)) <;> (try (exfalso; omega))
              | (with_reducible refine And.intro (fun h => ?_) ?_) <;> (try (exfalso; omega))
              | ((with_reducible refine and_keep ?_ fun hk => ?_); omega)
              | (simp -dsimp -implicitDefEqProofs [*]))
            exact Next.intro (i + 1) (by omega) (by omega) (by simp) (by repeat' (first | exact StLe.refl _ | (refine StLe_cons (by simp [*]; done) ?_) | (refine StLe_fresh (by simp [*]; done) ?_)))
          · subst hL
            clear f1 f2 f3
            by_cases hek : e.kind = 1
            · have hev := he hek
              clear he
              repeat' (first
                | (with_reducible refine Fresh.intro fun b hb => ?_) <;> (try simp -dsimp -implicitDefEqProofs [*] at hb)
                | (with_reducible refine Rets.xcall (subject_spec _ _) ?_)
                | (with_reducible refine Rets.xsoft (subject_spec _ _) ?_)
                | (with_reducible refine xlateCall_of (fun _ => subject_spec _ _) ?_)
                | (with_reducible refine Rets.xcall (hB _) ?_)
                | (with_reducible refine Rets.xsoft (hB _) ?_)
                | (with_reducible refine xlateCall_of (fun _ => hB _) ?_)
                | (with_reducible refine Rets.xcall (hA2 _) ?_)
                | (with_reducible refine Rets.xsoft (hA2 _) ?_)
                | (with_reducible refine xlateCall_of (fun _ => hA2 _) ?_)
                | (with_reducible refine Lit.imm ?_)
                | ((with_reducible refine Grow.intro ?_ fun b cap hb hc1 hc2 => ?_); omega) <;> (try simp -dsimp -implicitDefEqProofs [*] at hb)
                | (with_reducible refine DrawLate.intro [] ?_)
                | (with_reducible refine Cls_and ?_ ?_)
                | (with_reducible exact Cls.self _ _)
                | (with_reducible refine Cls_same ?_)
                | (with_reducible refine Cls_in ?_ ?_)
                | (with_reducible refine Cls_fresh ?_ ?_)
                | (with_reducible refine And.intro (fun h => ?_) (fun h => ?_)) <;> (try (exfalso; omega))
                | (with_reducible refine And.intro (fun h => ?_) ?_) <;> (try (exfalso; omega))
                | ((with_reducible refine and_keep ?_ fun hk => ?_); omega)
                | (simp -dsimp -implicitDefEqProofs [*]))
              exact Next.intro (i + 1) (by omega) (by omega) (by simp) (by repeat' (first | exact StLe.refl _ | (refine StLe_cons (by simp [*]; done) ?_) | (refine StLe_fresh (by simp [*]; done) ?_)))
            · clear he
              repeat' (first
                | (with_reducible refine Fresh.intro fun b hb => ?_) <;> (try simp -dsimp -implicitDefEqProofs [*] at hb)
                | (with_reducible refine Rets.xcall (subject_spec _ _) ?_)
                | (with_reducible refine Rets.xsoft (subject_spec _ _) ?_)
                | (with_reducible refine xlateCall_of (fun _ => subject_spec _ _) ?_)
                | (with_reducible refine Rets.xcall (hB _) ?_)
                | (with_reducible refine Rets.xsoft (hB _) ?_)
                | (with_reducible refine xlateCall_of (fun _ => hB _) ?_)
                | (with_reducible refine Rets.xcall (hA2 _) ?_)
                | (with_reducible refine Rets.xsoft (hA2 _) ?_)
                | (with_reducible refine xlateCall_of (fun _ => hA2 _) ?_)
                | (with_reducible refine Lit.imm ?_)
                | ((with_reducible refine Grow.intro ?_ fun b cap hb hc1 hc2 => ?_); omega) <;> (try simp -dsimp -implicitDefEqProofs [*] at hb)
                | (with_reducible refine DrawLate.intro [] ?_)
                | (with_reducible refine Cls_and ?_ ?_)
                | (with_reducible exact Cls.self _ _)
                | (with_reducible refine Cls_same ?_)
                | (with_reducible refine Cls_in ?_ ?_)
                | (with_reducible refine Cls_fresh ?_ ?_)
                | (with_reducible refine And.intro (fun h => ?_) (fun h => ?_)) <;> (try (exfalso; omega))
                | (with_reducible refine And.intro (fun h => ?_) ?_) <;> (try (exfalso; omega))
                | ((with_reducible refine and_keep ?_ fun hk => ?_); omega)
                | (simp -dsimp -implicitDefEqProofs [*]))
              exact Next.intro (i + 1) (by omega) (by omega) (by simp) (by repeat' (first | exact StLe.refl _ | (refine StLe_cons (by simp [*]; done) ?_) | (refine StLe_fresh (by simp [*]; done) ?_)))
        · obtain ⟨e, hL, he⟩ := f3 hk
          subst hL
          clear f1 f2 f3
          cases n with
          | zero =>
            clear he hw1
            have hw1 : IntKind.i64.wrap 0 = 0 := rfl
            have hs0 : sub (Decision.row S) 0 14 = some S[0].enc := Decision.row_sub S 0 hnl
            have hn : S.length = 1 := hn
            repeat' (first
              | (with_reducible refine Fresh.intro fun b hb => ?_) <;> (try simp -dsimp -implicitDefEqProofs [*] at hb)
              | (with_reducible refine Rets.xcall (subject_spec _ _) ?_)
              | (with_reducible refine Rets.xsoft (subject_spec _ _) ?_)
              | (with_reducible refine xlateCall_of (fun _ => subject_spec _ _) ?_)
              | (with_reducible refine Rets.xcall (hB _) ?_)
              | (with_reducible refine Rets.xsoft (hB _) ?_)
              | (with_reducible refine xlateCall_of (fun _ => hB _) ?_)
              | (with_reducible refine Rets.xcall (hA2 _) ?_)
              | (with_reducible refine Rets.xsoft (hA2 _) ?_)
              | (with_reducible refine xlateCall_of (fun _ => hA2 _) ?_)
              | (with_reducible refine Lit.imm ?_)
              | ((with_reducible refine Grow.intro ?_ fun b cap hb hc1 hc2 => ?_); omega) <;> (try simp -dsimp -implicitDefEqProofs [*] at hb)
              | (with_reducible refine DrawLate.intro [] ?_)
              | (with_reducible refine Cls_and ?_ ?_)
              | (with_reducible exact Cls.self _ _)
              | (with_reducible refine Cls_same ?_)
              | (with_reducible refine Cls_in ?_ ?_)
              | (with_reducible refine Cls_fresh ?_ ?_)
              | (with_reducible refine And.intro (fun h => ?_) (fun h => ?_)) <;> (try (exfalso; omega))
              | (with_reducible refine And.intro (fun h => ?_) ?_) <;> (try (exfalso; omega))
              | ((with_reducible refine and_keep ?_ fun hk => ?_); omega)
              | (simp -dsimp -implicitDefEqProofs [*]))
            exact Next.intro (i + 1) (by omega) (by omega) (by simp) (by repeat' (first | exact StLe.refl _ | (refine StLe_cons (by simp [*]; done) ?_) | (refine StLe_fresh (by simp [*]; done) ?_)))
          | succ m =>
            have he2 := he m rfl
            clear he
            have hml : m < S.length := by omega
            clear hw1
            have hw1 : IntKind.i64.wrap ((m : Int) + 1) = (m : Int) + 1 := wrap_succ (by omega)
            have hs2 : (m : Int) + 1 + 1 - 2 = m := by omega
            have hw2 : IntKind.i64.wrap ((m : Nat) : Int) = m := wrap_nat (by omega)
            by_cases hek : S[m].kind = 1
            · have hev := he2 hek
              clear he2
              repeat' (first
                | (with_reducible refine Fresh.intro fun b hb => ?_) <;> (try simp -dsimp -implicitDefEqProofs [*] at hb)
                | (with_reducible refine Rets.xcall (subject_spec _ _) ?_)
                | (with_reducible refine Rets.xsoft (subject_spec _ _) ?_)
                | (with_reducible refine xlateCall_of (fun _ => subject_spec _ _) ?_)
                | (with_reducible refine Rets.xcall (hB _) ?_)
                | (with_reducible refine Rets.xsoft (hB _) ?_)
                | (with_reducible refine xlateCall_of (fun _ => hB _) ?_)
                | (with_reducible refine Rets.xcall (hA2 _) ?_)
                | (with_reducible refine Rets.xsoft (hA2 _) ?_)
                | (with_reducible refine xlateCall_of (fun _ => hA2 _) ?_)
                | (with_reducible refine Lit.imm ?_)
                | ((with_reducible refine Grow.intro ?_ fun b cap hb hc1 hc2 => ?_); omega) <;> (try simp -dsimp -implicitDefEqProofs [*] at hb)
                | (with_reducible refine DrawLate.intro [] ?_)
                | (with_reducible refine Cls_and ?_ ?_)
                | (with_reducible exact Cls.self _ _)
                | (with_reducible refine Cls_same ?_)
                | (with_reducible refine Cls_in ?_ ?_)
                | (with_reducible refine Cls_fresh ?_ ?_)
                | (with_reducible refine And.intro (fun h => ?_) (fun h => ?_)) <;> (try (exfalso; omega))
                | (with_reducible refine And.intro (fun h => ?_) ?_) <;> (try (exfalso; omega))
                | ((with_reducible refine and_keep ?_ fun hk => ?_); omega)
                | (simp -dsimp -implicitDefEqProofs [*]))
              exact Next.intro (i + 1) (by omega) (by omega) (by simp) (by repeat' (first | exact StLe.refl _ | (refine StLe_cons (by simp [*]; done) ?_) | (refine StLe_fresh (by simp [*]; done) ?_)))
            · clear he2
              repeat' (first
                | (with_reducible refine Fresh.intro fun b hb => ?_) <;> (try simp -dsimp -implicitDefEqProofs [*] at hb)
                | (with_reducible refine Rets.xcall (subject_spec _ _) ?_)
                | (with_reducible refine Rets.xsoft (subject_spec _ _) ?_)
                | (with_reducible refine xlateCall_of (fun _ => subject_spec _ _) ?_)
                | (with_reducible refine Rets.xcall (hB _) ?_)
                | (with_reducible refine Rets.xsoft (hB _) ?_)
                | (with_reducible refine xlateCall_of (fun _ => hB _) ?_)
                | (with_reducible refine Rets.xcall (hA2 _) ?_)
                | (with_reducible refine Rets.xsoft (hA2 _) ?_)
                | (with_reducible refine xlateCall_of (fun _ => hA2 _) ?_)
                | (with_reducible refine Lit.imm ?_)
                | ((with_reducible refine Grow.intro ?_ fun b cap hb hc1 hc2 => ?_); omega) <;> (try simp -dsimp -implicitDefEqProofs [*] at hb)
                | (with_reducible refine DrawLate.intro [] ?_)
                | (with_reducible refine Cls_and ?_ ?_)
                | (with_reducible exact Cls.self _ _)
                | (with_reducible refine Cls_same ?_)
                | (with_reducible refine Cls_in ?_ ?_)
                | (with_reducible refine Cls_fresh ?_ ?_)
                | (with_reducible refine And.intro (fun h => ?_) (fun h => ?_)) <;> (try (exfalso; omega))
                | (with_reducible refine And.intro (fun h => ?_) ?_) <;> (try (exfalso; omega))
                | ((with_reducible refine and_keep ?_ fun hk => ?_); omega)
                | (simp -dsimp -implicitDefEqProofs [*]))
              exact Next.intro (i + 1) (by omega) (by omega) (by simp) (by repeat' (first | exact StLe.refl _ | (refine StLe_cons (by simp [*]; done) ?_) | (refine StLe_fresh (by simp [*]; done) ?_)))
      · repeat' (first
          | (with_reducible refine Fresh.intro fun b hb => ?_) <;> (try simp -dsimp -implicitDefEqProofs [*] at hb)
          | (with_reducible refine Lit.imm ?_)
          | ((with_reducible refine Grow.intro ?_ fun b cap hb hc1 hc2 => ?_); omega) <;> (try simp -dsimp -implicitDefEqProofs [*] at hb)
          | (with_reducible refine DrawLate.intro [] ?_)
          | (with_reducible refine Cls_and ?_ ?_)
          | (with_reducible exact Cls.self _ _)
          | (with_reducible refine Cls_same ?_)
          | (with_reducible refine Cls_in ?_ ?_)
          | (with_reducible refine Cls_fresh ?_ ?_)
          | (with_reducible refine And.intro (fun h => ?_) (fun h => ?_)) <;> (try (exfalso; omega))
          | (with_reducible refine And.intro (fun h => ?_) ?_) <;> (try (exfalso; omega))
          | ((with_reducible refine and_keep ?_ fun hk => ?_); omega)
          | (simp -dsimp -implicitDefEqProofs [*]))
    · generalize applyN l d t = N at *
      generalize applyL l d t = X at *
      generalize standN d t = N2 at *
      generalize standL d t = X2 at *
      repeat' (first
        | (with_reducible refine Fresh.intro fun b hb => ?_) <;> (try simp -dsimp -implicitDefEqProofs [*] at hb)
        | (with_reducible refine Rets.xcall (sane_spec _) ?_)
        | (with_reducible refine Rets.xsoft (sane_spec _) ?_)
        | (with_reducible refine xlateCall_of (fun _ => sane_spec _) ?_)
        | (with_reducible refine Rets.xcall (hfew _) ?_)
        | (with_reducible refine Rets.xsoft (hfew _) ?_)
        | (with_reducible refine xlateCall_of (fun _ => hfew _) ?_)
        | (with_reducible refine Rets.xcall (hap _) ?_)
        | (with_reducible refine Rets.xsoft (hap _) ?_)
        | (with_reducible refine xlateCall_of (fun _ => hap _) ?_)
        | (with_reducible refine Rets.xcall (hst _) ?_)
        | (with_reducible refine Rets.xsoft (hst _) ?_)
        | (with_reducible refine xlateCall_of (fun _ => hst _) ?_)
        | (with_reducible refine Lit.imm ?_)
        | ((with_reducible refine Grow.intro ?_ fun b cap hb hc1 hc2 => ?_); omega) <;> (try simp -dsimp -implicitDefEqProofs [*] at hb)
        | (with_reducible refine DrawLate.intro [] ?_)
        | (with_reducible refine Cls_and ?_ ?_)
        | (with_reducible exact Cls.self _ _)
        | (with_reducible refine Cls_same ?_)
        | (with_reducible refine Cls_in ?_ ?_)
        | (with_reducible refine Cls_fresh ?_ ?_)
        | (with_reducible refine And.intro (fun h => ?_) (fun h => ?_)) <;> (try (exfalso; omega))
        | (with_reducible refine And.intro (fun h => ?_) ?_) <;> (try (exfalso; omega))
        | ((with_reducible refine and_keep ?_ fun hk => ?_); omega)
        | (simp -dsimp -implicitDefEqProofs [*]))
end Go.Proofs.Ythkjdppifnmakaa
