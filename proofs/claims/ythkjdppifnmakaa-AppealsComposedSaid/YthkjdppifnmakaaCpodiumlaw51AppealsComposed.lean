/- The code of one function. -/
import Derived.Test.YthkjdppifnmakaaCode
import Derived.Test.YthkjdppifnmakaaS51ZA
set_option maxRecDepth 100000
namespace Go.Proofs.Ythkjdppifnmakaa
open Go.Pv
/-- podium/podiumlaw51.AppealsComposed -/
noncomputable def C.podiumlaw51_AppealsComposed : MFunc := ⟨115, 4, [.tmp 8],
  (.seq (.region [
    ⟨(some 8), none, .val (.mv (.const (.bool false)))⟩] [])
  (.seq (.seq (.region [
    ⟨(some 20), none, .call (.const (.func (.func F.podiumlaw51_sane) [] [])) []⟩,
    ⟨(some 21), none, .val (.un .not (.tmp 20))⟩] [20])
  (.cond (.tmp 21)
  (.seq (.region [
    ⟨(some 8), none, .val (.mv (.const (.bool false)))⟩] [])
  .ret)
  .skip))
  (.seq (.seq (.region [
    ⟨(some 22), none, .val (.mv (.tmp 0))⟩,
    ⟨(some 23), none, .val (.mv (.tmp 1))⟩,
    ⟨(some 24), none, .call (.const (.func (.func F.podiumref51_Few) [] [])) [(.tmp 22), (.tmp 23)]⟩,
    ⟨(some 25), none, .val (.un .not (.tmp 24))⟩,
    ⟨(some 26), none, .val (.mv (.tmp 25))⟩,
    ⟨(some 27), (some (26, false)), .val (.mv (.tmp 3))⟩,
    ⟨(some 28), (some (26, false)), .val (.mv (.tmp 2))⟩,
    ⟨(some 29), (some (26, false)), .val (.bin .lss T.int (.tmp 27) (.tmp 28))⟩,
    ⟨(some 30), none, .val (.pick (.tmp 26) (.const (.bool true)) (.tmp 29))⟩] [22, 23, 24, 25, 26, 27, 28, 29])
  (.cond (.tmp 30)
  (.seq (.region [
    ⟨(some 8), none, .val (.mv (.const (.bool true)))⟩] [])
  .ret)
  .skip))
  (.seq (.region [
    ⟨(some 32), none, .val (.mv (.tmp 0))⟩,
    ⟨(some 33), none, .val (.mv (.tmp 1))⟩,
    ⟨(some 34), none, .val (.mv (.tmp 2))⟩,
    ⟨(some 35), none, .call (.const (.func (.func F.appeals_Apply) [] [])) [(.tmp 32), (.tmp 33), (.tmp 34)]⟩,
    ⟨(some 31), none, .val (.mv (.tmp 35))⟩,
    ⟨(some 36), none, .val (.extract 0 (.tmp 31))⟩,
    ⟨(some 37), none, .val (.extract 1 (.tmp 31))⟩,
    ⟨(some 9), none, .val (.mv (.tmp 36))⟩,
    ⟨(some 10), none, .val (.mv (.tmp 37))⟩] [32, 33, 34, 35, 31, 36, 37])
  (.seq (.region [
    ⟨(some 39), none, .val (.mv (.tmp 0))⟩,
    ⟨(some 40), none, .val (.mv (.tmp 1))⟩,
    ⟨(some 41), none, .val (.mv (.tmp 3))⟩,
    ⟨(some 42), none, .call (.const (.func (.func F.appeals_Apply) [] [])) [(.tmp 39), (.tmp 40), (.tmp 41)]⟩,
    ⟨(some 38), none, .val (.mv (.tmp 42))⟩,
    ⟨(some 43), none, .val (.extract 0 (.tmp 38))⟩,
    ⟨(some 44), none, .val (.extract 1 (.tmp 38))⟩,
    ⟨(some 11), none, .val (.mv (.tmp 43))⟩,
    ⟨(some 12), none, .val (.mv (.tmp 44))⟩] [39, 40, 41, 42, 38, 43, 44])
  (.seq (.seq (.region [
    ⟨(some 45), none, .val (.mv (.tmp 10))⟩,
    ⟨(some 46), none, .val (.bin .neq T.apiErrno (.tmp 45) (.const (.int 0)))⟩,
    ⟨(some 47), none, .val (.mv (.tmp 46))⟩,
    ⟨(some 48), (some (47, false)), .val (.mv (.tmp 12))⟩,
    ⟨(some 49), (some (47, false)), .val (.bin .neq T.apiErrno (.tmp 48) (.const (.int 0)))⟩,
    ⟨(some 50), none, .val (.pick (.tmp 47) (.const (.bool true)) (.tmp 49))⟩] [45, 46, 47, 48, 49])
  (.cond (.tmp 50)
  (.seq (.region [
    ⟨(some 8), none, .val (.mv (.const (.bool true)))⟩] [])
  .ret)
  .skip))
  (.seq (.region [
    ⟨(some 13), none, .val (.mv (.const .nil))⟩,
    ⟨(some 14), none, .val (.mv (.const .nil))⟩] [])
  (.seq (.seq (.region [
    ⟨(some 15), none, .val (.mv (.const (.int 0)))⟩] [])
  (.block 0 (.loop (.seq (.seq (.region [
    ⟨(some 51), none, .val (.mv (.tmp 15))⟩,
    ⟨(some 52), none, .val (.mv (.tmp 1))⟩,
    ⟨(some 53), none, .val (.len (.tmp 52))⟩,
    ⟨(some 54), none, .val (.bin .lss T.int (.tmp 51) (.tmp 53))⟩] [51, 52, 53])
  (.cond (.tmp 54)
  .skip
  (.exit 0)))
  (.seq (.block 1 (.seq (.seq (.region [
    ⟨(some 57), none, .val (.mv (.tmp 1))⟩,
    ⟨(some 58), none, .val (.mv (.tmp 15))⟩,
    ⟨(some 59), none, .val (.indexAddr 14 (.tmp 57) (.tmp 58))⟩,
    ⟨(some 60), none, .val (.fieldAddr 1 (.tmp 59))⟩,
    ⟨(some 61), none, .val (.load 1 false (.tmp 60))⟩,
    ⟨(some 62), none, .val (.mv (.tmp 2))⟩,
    ⟨(some 63), none, .val (.bin .gtr T.int (.tmp 61) (.tmp 62))⟩] [57, 58, 59, 60, 61, 62])
  (.cond (.tmp 63)
  (.region [
    ⟨(some 64), none, .val (.mv (.tmp 13))⟩,
    ⟨(some 65), none, .val (.mv (.tmp 1))⟩,
    ⟨(some 66), none, .val (.mv (.tmp 15))⟩,
    ⟨(some 67), none, .val (.indexAddr 14 (.tmp 65) (.tmp 66))⟩,
    ⟨(some 68), none, .val (.load 14 true (.tmp 67))⟩,
    ⟨(some 69), none, .val (.buildSlice T.apiDecision 1 [(.int 0), (.int 0), (.int 0), (.int 0), (.int 0), (.int 0), (.int 0), (.int 0), (.int 0), (.int 0), (.int 0), (.int 0), (.int 0), (.int 0)] [(0, 14, (.tmp 68))])⟩,
    ⟨(some 70), none, .append T.apiDecision 112 14 (.tmp 64) (.tmp 69)⟩,
    ⟨(some 13), none, .val (.mv (.tmp 70))⟩] [64, 65, 66, 67, 68, 69, 70])
  .skip))
  (.seq (.region [
    ⟨(some 71), none, .val (.mv (.tmp 1))⟩,
    ⟨(some 72), none, .val (.mv (.tmp 15))⟩,
    ⟨(some 73), none, .val (.indexAddr 14 (.tmp 71) (.tmp 72))⟩,
    ⟨(some 74), none, .val (.fieldAddr 1 (.tmp 73))⟩,
    ⟨(some 75), none, .val (.load 1 false (.tmp 74))⟩,
    ⟨(some 76), none, .val (.mv (.tmp 3))⟩,
    ⟨(some 77), none, .val (.bin .leq T.int (.tmp 75) (.tmp 76))⟩] [71, 72, 73, 74, 75, 76])
  (.cond (.tmp 77)
  (.region [
    ⟨(some 78), none, .val (.mv (.tmp 14))⟩,
    ⟨(some 79), none, .val (.mv (.tmp 1))⟩,
    ⟨(some 80), none, .val (.mv (.tmp 15))⟩,
    ⟨(some 81), none, .val (.indexAddr 14 (.tmp 79) (.tmp 80))⟩,
    ⟨(some 82), none, .val (.load 14 true (.tmp 81))⟩,
    ⟨(some 83), none, .val (.buildSlice T.apiDecision 1 [(.int 0), (.int 0), (.int 0), (.int 0), (.int 0), (.int 0), (.int 0), (.int 0), (.int 0), (.int 0), (.int 0), (.int 0), (.int 0), (.int 0)] [(0, 14, (.tmp 82))])⟩,
    ⟨(some 84), none, .append T.apiDecision 112 14 (.tmp 78) (.tmp 83)⟩,
    ⟨(some 14), none, .val (.mv (.tmp 84))⟩] [78, 79, 80, 81, 82, 83, 84])
  .skip))))
  (.region [
    ⟨(some 55), none, .val (.mv (.tmp 15))⟩,
    ⟨(some 56), none, .val (.bin .add T.int (.tmp 55) (.const (.int 1)))⟩,
    ⟨(some 15), none, .val (.mv (.tmp 56))⟩] [55, 56]))))))
  (.seq (.region [
    ⟨(some 86), none, .val (.mv (.tmp 9))⟩,
    ⟨(some 87), none, .val (.mv (.tmp 13))⟩,
    ⟨(some 88), none, .val (.mv (.tmp 3))⟩,
    ⟨(some 89), none, .call (.const (.func (.func F.appeals_Apply) [] [])) [(.tmp 86), (.tmp 87), (.tmp 88)]⟩,
    ⟨(some 85), none, .val (.mv (.tmp 89))⟩,
    ⟨(some 90), none, .val (.extract 0 (.tmp 85))⟩,
    ⟨(some 91), none, .val (.extract 1 (.tmp 85))⟩,
    ⟨(some 16), none, .val (.mv (.tmp 90))⟩,
    ⟨(some 17), none, .val (.mv (.tmp 91))⟩] [86, 87, 88, 89, 85, 90, 91])
  (.seq (.region [
    ⟨(some 93), none, .val (.mv (.tmp 0))⟩,
    ⟨(some 94), none, .val (.mv (.tmp 14))⟩,
    ⟨(some 95), none, .val (.mv (.tmp 3))⟩,
    ⟨(some 96), none, .call (.const (.func (.func F.appeals_Apply) [] [])) [(.tmp 93), (.tmp 94), (.tmp 95)]⟩,
    ⟨(some 92), none, .val (.mv (.tmp 96))⟩,
    ⟨(some 97), none, .val (.extract 0 (.tmp 92))⟩,
    ⟨(some 98), none, .val (.extract 1 (.tmp 92))⟩,
    ⟨(some 18), none, .val (.mv (.tmp 97))⟩,
    ⟨(some 19), none, .val (.mv (.tmp 98))⟩] [93, 94, 95, 96, 92, 97, 98])
  (.seq (.region [
    ⟨(some 99), none, .val (.mv (.tmp 17))⟩,
    ⟨(some 100), none, .val (.bin .eql T.apiErrno (.tmp 99) (.const (.int 0)))⟩,
    ⟨(some 101), none, .val (.mv (.tmp 100))⟩,
    ⟨(some 102), (some (101, true)), .val (.mv (.tmp 19))⟩,
    ⟨(some 103), (some (101, true)), .val (.bin .eql T.apiErrno (.tmp 102) (.const (.int 0)))⟩,
    ⟨(some 104), none, .val (.pick (.tmp 101) (.tmp 103) (.const (.bool false)))⟩,
    ⟨(some 105), none, .val (.mv (.tmp 104))⟩,
    ⟨(some 106), (some (105, true)), .val (.mv (.tmp 16))⟩,
    ⟨(some 107), (some (105, true)), .val (.mv (.tmp 11))⟩,
    ⟨(some 108), (some (105, true)), .call (.const (.func (.func F.podiumref51_Same) [] [])) [(.tmp 106), (.tmp 107)]⟩,
    ⟨(some 109), none, .val (.pick (.tmp 105) (.tmp 108) (.const (.bool false)))⟩,
    ⟨(some 110), none, .val (.mv (.tmp 109))⟩,
    ⟨(some 111), (some (110, true)), .val (.mv (.tmp 18))⟩,
    ⟨(some 112), (some (110, true)), .val (.mv (.tmp 11))⟩,
    ⟨(some 113), (some (110, true)), .call (.const (.func (.func F.podiumref51_Same) [] [])) [(.tmp 111), (.tmp 112)]⟩,
    ⟨(some 114), none, .val (.pick (.tmp 110) (.tmp 113) (.const (.bool false)))⟩,
    ⟨(some 8), none, .val (.mv (.tmp 114))⟩] [99, 100, 101, 102, 103, 104, 105, 106, 107, 108, 109, 110, 111, 112, 113, 114])
  .ret)))))))))))⟩
theorem H.podiumlaw51_AppealsComposed : Has P F.podiumlaw51_AppealsComposed C.podiumlaw51_AppealsComposed := ⟨Try.f6, Try.func6, by kernel_rfl, by kernel_rfl⟩
end Go.Proofs.Ythkjdppifnmakaa
/- AppealsComposed. -/
namespace Go.Proofs.Ythkjdppifnmakaa
open Go.Pv
set_option maxRecDepth 100000
set_option maxHeartbeats 4000000
theorem split_srtd {Q : List Decision} {t : Int} (h : Srtd SortDecision.key Q) : Q.filter (early t) ++ Q.filter (late t) = Q := by
  induction Q with
  | nil => rfl
  | cons d Q ih =>
    have h' := List.pairwise_cons.1 h
    by_cases hd : d.known ≤ t
    · rw [List.filter_cons_of_pos (by simpa using hd), List.filter_cons_of_neg (by simpa using hd), List.cons_append, ih h'.2]
    · have h0 : Q.filter (early t) = [] := by
        rw [List.filter_eq_nil_iff]
        intro e he
        have := h'.1 e he
        simp only [SortDecision.key] at this
        simp; omega
      have h1 : Q.filter (late t) = Q := by
        rw [List.filter_eq_self]
        intro e he
        have := h'.1 e he
        simp only [SortDecision.key] at this
        simp; omega
      rw [List.filter_cons_of_neg (by simpa using hd), List.filter_cons_of_pos (by simpa using hd), h0, h1]
      rfl
theorem stand_two {d : List Decision} {t u : Int} (h : standN d t = 0) (hu : standN d u = 0) (htu : t ≤ u) : standL d t ++ standL (d.filter (late t)) u = standL d u := by
  rw [standL_filter hu, standL_zero h, standL_zero hu]
  have e : (srt SortDecision.key d).filter (early t) = ((srt SortDecision.key d).filter (early u)).filter (early t) := by
    rw [List.filter_filter]
    refine List.filter_congr fun x _ => ?_
    rw [Bool.eq_iff_iff]
    simp; omega
  rw [e]
  exact split_srtd ((srt_srtd d).filter _)
theorem Made.second {l : List Event} {d : List Decision} {t u : Int} {x y : List Event} (h : Made l d t x) (hu : Made l d u y) (htu : t ≤ u) : Made x (d.filter (late t)) u y :=
  ⟨h.check, standN_filter hu.dec _, hu.len, hu.srt, fun n e => by
    rw [h.evEq, ← List.foldl_append, ← hu.mem, ← stand_two h.dec hu.dec htu]
    unfold aboutL
    rw [List.filter_append]⟩
theorem Made.third {l : List Event} {d : List Decision} {u : Int} {y : List Event} (hu : Made l d u y) : Made l (d.filter (early u)) u y :=
  ⟨hu.ev, standN_filter hu.dec _, hu.len, hu.srt, fun n e => by
    rw [← hu.mem, standL_filter hu.dec, standL_zero hu.dec, List.filter_filter]
    simp⟩
abbrev CS := Nat × Option (Acc Decision) × Option (Acc Decision)
section
variable (ta tb : Bool) (l : List Event) (d : List Decision) (t u : Int) (X A : List Event) (st : Store) (y : CS)
abbrev CE : Env := [(0, Event.lst ta l), (1, Decision.lst tb d), (2, .int t), (3, .int u), (9, Event.lst false X), (11, Event.lst false A), (13, accP y.2.1), (14, accP y.2.2), (15, .int (y.1 : Nat))]
abbrev CSt : Store := accS T.apiDecision (accS T.apiDecision st y.2.1) y.2.2
abbrev CI : Prop := y.1 ≤ d.length ∧ accOk Decision.row 14 st y.2.1 ∧ accOk Decision.row 14 (accS T.apiDecision st y.2.1) y.2.2 ∧ accL y.2.1 = (d.take y.1).filter (late t) ∧ accL y.2.2 = (d.take y.1).filter (early u)
abbrev CF : Env := [(0, Event.lst ta l), (1, Decision.lst tb d), (2, .int t), (3, .int u), (9, Event.lst false X), (11, Event.lst false A), (13, Decision.lst false (accL y.2.1)), (14, Decision.lst false (accL y.2.2)), (15, .int (y.1 : Nat))]
end
theorem CV (ta tb : Bool) (l : List Event) (d : List Decision) (t u : Int) (X A : List Event) (st : Store) (y : CS) (h : CI d t u st y) (_ : y.1 = d.length) : View ⟨CE ta tb l d t u X A y, CSt st y⟩ ⟨CF ta tb l d t u X A y, st⟩ := by
  obtain ⟨i, a, b⟩ := y
  obtain ⟨hi, ha, hb, -, -⟩ := h
  have v1 := View.acc (T := T.apiDecision) (row := Decision.row) rfl hb (e := [(0, Event.lst ta l), (1, Decision.lst tb d), (2, .int t), (3, .int u), (9, Event.lst false X), (11, Event.lst false A), (13, accP a), (14, accP b), (15, .int (i : Nat))])
    (e' := [(0, Event.lst ta l), (1, Decision.lst tb d), (2, .int t), (3, .int u), (9, Event.lst false X), (11, Event.lst false A), (13, accP a), (14, Decision.lst false (accL b)), (15, .int (i : Nat))]) (.refl _) (by simp)
  exact v1.trans (View.acc (row := Decision.row) rfl ha (.refl _) (by simp))
theorem composed_law (ta tb : Bool) (l : List Event) (d : List Decision) (t u : Int) (st : Store) : Rets P F.podiumlaw51_AppealsComposed [Event.lst ta l, Decision.lst tb d, .int t, .int u] st (.bool true) := by
  refine (H.podiumlaw51_AppealsComposed).pure hmix rfl rfl ?_
  have hfew := few_spec ta tb l d
  cases hf : fewN l.length d.length with
  | false =>
    rw [hf] at hfew
    repeat' (first
      | (with_reducible refine Fresh.intro fun b hb => ?_) <;> (try simp -dsimp -implicitDefEqProofs [*] at hb)
      | (with_reducible refine Rets.xcall (sane_spec _) ?_)
      | (with_reducible refine Rets.xsoft (sane_spec _) ?_)
      | (with_reducible refine xlateCall_of (fun _ => sane_spec _) ?_)
      | (with_reducible refine Rets.xcall (hfew _) ?_)
      | (with_reducible refine Rets.xsoft (hfew _) ?_)
      | (with_reducible refine xlateCall_of (fun _ => hfew _) ?_)
      | (with_reducible refine Lit.imm ?_)
      | ((with_reducible refine Grow.intro ?_ fun b cap hb hc1 hc2 => ?_); omega) <;> (try simp -dsimp -implicitDefEqProofs [*] at hb)
      | (with_reducible refine DrawLate.intro [] ?_)
      | (with_reducible refine Cls_and ?_ ?_)
      | (with_reducible exact Cls.self _ _)
      | (with_reducible refine Cls_same ?_)
      | (with_reducible refine Cls_in ?_ ?_)
      | (with_reducible refine Cls_fresh ?_ ?_)
      | (with_reducible refine And.intro (fun h => ?_) (fun h => ?_)) <;> (try (exfalso; omega))
      | (with_reducible refine And.intro (fun h => ?_) ?_) <;> (try (exfalso; omega))
      | ((with_reducible refine and_keep ?_ fun hk => ?_); omega)
      | (simp -dsimp -implicitDefEqProofs [*]))
  | true =>
    rw [hf] at hfew
    have hd := few_d hf
    have hlen := few_e hf
    have hap := fun st => apply_spec ta tb l d t hd st
    have hau := fun st => apply_spec ta tb l d u hd st
    by_cases htu : u < t
    · repeat' (first
        | (with_reducible refine Fresh.intro fun b hb => ?_) <;> (try simp -dsimp -implicitDefEqProofs [*] at hb)
        | (with_reducible refine Rets.xcall (sane_spec _) ?_)
        | (with_reducible refine Rets.xsoft (sane_spec _) ?_)
        | (with_reducible refine xlateCall_of (fun _ => sane_spec _) ?_)
        | (with_reducible refine Rets.xcall (hfew _) ?_)
        | (with_reducible refine Rets.xsoft (hfew _) ?_)
        | (with_reducible refine xlateCall_of (fun _ => hfew _) ?_)
        | (with_reducible refine Lit.imm ?_)
        | ((with_reducible refine Grow.intro ?_ fun b cap hb hc1 hc2 => ?_); omega) <;> (try simp -dsimp -implicitDefEqProofs [*] at hb)
        | (with_reducible refine DrawLate.intro [] ?_)
        | (with_reducible refine Cls_and ?_ ?_)
        | (with_reducible exact Cls.self _ _)
        | (with_reducible refine Cls_same ?_)
        | (with_reducible refine Cls_in ?_ ?_)
        | (with_reducible refine Cls_fresh ?_ ?_)
        | (with_reducible refine And.intro (fun h => ?_) (fun h => ?_)) <;> (try (exfalso; omega))
        | (with_reducible refine And.intro (fun h => ?_) ?_) <;> (try (exfalso; omega))
        | ((with_reducible refine and_keep ?_ fun hk => ?_); omega)
        | (simp -dsimp -implicitDefEqProofs [*]))
    by_cases hN : applyN l d t = 0
    · by_cases hU : applyN l d u = 0
      · have M := made hN
        have MU := made hU
        have hX : (applyL l d t).length ≤ 4096 := M.len
        have hA : (applyL l d u).length ≤ 4096 := MU.len
        rw [hN] at hap
        rw [hU] at hau
        generalize applyL l d t = X at *
        generalize applyL l d u = A at *
        have hdd : d.length ≤ 20 := by rcases hd with h | h; exact h; have := M.decs.1; omega
        have Z2 : ∀ st, Rets P F.appeals_Apply [Event.lst false X, Decision.lst false (d.filter (late t)), .int u] st (.tuple [Event.lst false A, .int 0]) := fun st => by
          have h := apply_spec false false X (d.filter (late t)) u (.inl (Nat.le_trans (List.length_filter_le ..) hdd)) st
          have h2 := (M.second MU (by omega)).out
          rw [h2.1, h2.2] at h
          exact h
        have Z3 : ∀ st, Rets P F.appeals_Apply [Event.lst ta l, Decision.lst false (d.filter (early u)), .int u] st (.tuple [Event.lst false A, .int 0]) := fun st => by
          have h := apply_spec ta false l (d.filter (early u)) u (.inl (Nat.le_trans (List.length_filter_le ..) hdd)) st
          have h2 := MU.third.out
          rw [h2.1, h2.2] at h
          exact h
        have S1 : ∀ st, Rets P F.podiumref51_Same [Event.lst false A, Event.lst false A] st (.bool true) := fun st => same_l _ _ _ _ (by omega) rfl st
        clear M MU hf hd hN hU
        repeat' (first
          | (with_reducible refine Fresh.intro fun b hb => ?_) <;> (try simp -dsimp -implicitDefEqProofs [*] at hb)
          | (with_reducible refine Rets.xcall (sane_spec _) ?_)
          | (with_reducible refine Rets.xsoft (sane_spec _) ?_)
          | (with_reducible refine xlateCall_of (fun _ => sane_spec _) ?_)
          | (with_reducible refine Rets.xcall (hfew _) ?_)
          | (with_reducible refine Rets.xsoft (hfew _) ?_)
          | (with_reducible refine xlateCall_of (fun _ => hfew _) ?_)
          | (with_reducible refine Rets.xcall (hap _) ?_)
          | (with_reducible refine Rets.xsoft (hap _) ?_)
          | (with_reducible refine xlateCall_of (fun _ => hap _) ?_)
          | (with_reducible refine Rets.xcall (hau _) ?_)
          | (with_reducible refine Rets.xsoft (hau _) ?_)
          | (with_reducible refine xlateCall_of (fun _ => hau _) ?_)
          | (with_reducible refine Lit.imm ?_)
          | ((with_reducible refine Grow.intro ?_ fun b cap hb hc1 hc2 => ?_); omega) <;> (try simp -dsimp -implicitDefEqProofs [*] at hb)
          | (with_reducible refine DrawLate.intro [] ?_)
          | (with_reducible refine Cls_and ?_ ?_)
          | (with_reducible exact Cls.self _ _)
          | (with_reducible refine Cls_same ?_)
          | (with_reducible refine Cls_in ?_ ?_)
          | (with_reducible refine Cls_fresh ?_ ?_)
          | (with_reducible refine And.intro (fun h => ?_) (fun h => ?_)) <;> (try (exfalso; omega))
          | (with_reducible refine And.intro (fun h => ?_) ?_) <;> (try (exfalso; omega))
          | ((with_reducible refine and_keep ?_ fun hk => ?_); omega)
          | (simp -dsimp -implicitDefEqProofs [*]))
        clear hfew hap hau
        refine xloop_fz (CE ta tb l d t u X A) (CSt st) (CI d t u st) (fun y => d.length - y.1) (fun y => y.1 = d.length) (CF ta tb l d t u X A) (fun _ => st)
          (CV ta tb l d t u X A st) (0, none, none) ⟨Nat.zero_le _, trivial, trivial, by simp, by simp⟩ (by simp [CE]) (by simp [CSt]) ?_ ?_
        · rintro ⟨i, a, b⟩ ⟨hi, ha, hb, hA1, hB1⟩ hi2
          try simp only at hi hA1 hB1 hi2
          subst hi2
          rw [List.take_length] at hA1 hB1
          simp only [CF, hA1, hB1]
          clear ha hb hA1 hB1 hi
          generalize d.filter (late t) = D1 at *
          generalize d.filter (early u) = D2 at *
          repeat' (first
            | (with_reducible refine Fresh.intro fun b hb => ?_) <;> (try simp -dsimp -implicitDefEqProofs [*] at hb)
            | (with_reducible refine Rets.xcall (Z2 _) ?_)
            | (with_reducible refine Rets.xsoft (Z2 _) ?_)
            | (with_reducible refine xlateCall_of (fun _ => Z2 _) ?_)
            | (with_reducible refine Rets.xcall (Z3 _) ?_)
            | (with_reducible refine Rets.xsoft (Z3 _) ?_)
            | (with_reducible refine xlateCall_of (fun _ => Z3 _) ?_)
            | (with_reducible refine Rets.xcall (S1 _) ?_)
            | (with_reducible refine Rets.xsoft (S1 _) ?_)
            | (with_reducible refine xlateCall_of (fun _ => S1 _) ?_)
            | (with_reducible refine Lit.imm ?_)
            | ((with_reducible refine Grow.intro ?_ fun b cap hb hc1 hc2 => ?_); omega) <;> (try simp -dsimp -implicitDefEqProofs [*] at hb)
            | (with_reducible refine DrawLate.intro [] ?_)
            | (with_reducible refine Cls_and ?_ ?_)
            | (with_reducible exact Cls.self _ _)
            | (with_reducible refine Cls_same ?_)
            | (with_reducible refine Cls_in ?_ ?_)
            | (with_reducible refine Cls_fresh ?_ ?_)
            | (with_reducible refine And.intro (fun h => ?_) (fun h => ?_)) <;> (try (exfalso; omega))
            | (with_reducible refine And.intro (fun h => ?_) ?_) <;> (try (exfalso; omega))
            | ((with_reducible refine and_keep ?_ fun hk => ?_); omega)
            | (simp -dsimp -implicitDefEqProofs [*]))
        · rintro ⟨i, a, b⟩ ⟨hi, ha, hb, hA1, hB1⟩ hi2
          try simp only at hi ha hb hA1 hB1 hi2
          simp only [CE, CSt]
          have hv := CV ta tb l d t u X A st
          have hw := wrap_succ (n := i) (by omega)
          have hil : i < d.length := by omega
          have fA := f_step (f := late t) hil
          have fB := f_step (f := early u) hil
          have lA := filter_len (f := late t) (l := d) (i := i)
          have lB := filter_len (f := early u) (l := d) (i := i)
          rw [← hA1] at fA lA
          rw [← hB1] at fB lB
          have kA : Hid ((late t d[i] = true → (d.take (i + 1)).filter (late t) = accL a ++ [d[i]]) ∧ (late t d[i] = false → (d.take (i + 1)).filter (late t) = accL a)) := ⟨fA⟩
          have kB : Hid ((early u d[i] = true → (d.take (i + 1)).filter (early u) = accL b ++ [d[i]]) ∧ (early u d[i] = false → (d.take (i + 1)).filter (early u) = accL b)) := ⟨fB⟩
          have kv : Hid (∀ x : CS, CI d t u st x → x.1 = d.length → View ⟨CE ta tb l d t u X A x, CSt st x⟩ ⟨CF ta tb l d t u X A x, st⟩) := ⟨hv⟩
          clear fA fB hA1 hB1 hv hi2 Z2 Z3 S1
          by_cases c1 : t < d[i].known
          · by_cases c2 : d[i].known ≤ u
            · repeat' (first
                | (with_reducible refine Fresh.intro fun b hb => ?_) <;> (try simp -dsimp -implicitDefEqProofs [*] at hb)
                | (with_reducible refine Lit.imm ?_)
                | ((with_reducible refine Grow.intro ?_ fun b cap hb hc1 hc2 => ?_); omega) <;> (try simp -dsimp -implicitDefEqProofs [*] at hb)
                | (with_reducible refine DrawLate.intro [] ?_)
                | (with_reducible refine Cls_and ?_ ?_)
                | (with_reducible exact Cls.self _ _)
                | (with_reducible refine Cls_same ?_)
                | (with_reducible refine Cls_in ?_ ?_)
                | (with_reducible refine Cls_fresh ?_ ?_)
                | (with_reducible refine And.intro (fun h => ?_) (fun h => ?_)) <;> (try (exfalso; omega))
                | (with_reducible refine And.intro (fun h => ?_) ?_) <;> (try (exfalso; omega))
                | ((with_reducible refine and_keep ?_ fun hk => ?_); omega)
                | (simp -dsimp -implicitDefEqProofs [*]))
              refine xappend_accB Decision.row_len Decision.row_append a b ha hb [d[i]] (by simp) rfl (by omega) (by omega) fun a' ha' hl' => ?_
              have k1 : Hid (accL a' = (d.take (i + 1)).filter (late t)) := ⟨by rw [hl', kA.out.1 (by simpa using c1)]⟩
              clear hl'
              repeat' (first
                | (with_reducible refine Fresh.intro fun b hb => ?_) <;> (try simp -dsimp -implicitDefEqProofs [*] at hb)
                | (with_reducible refine Lit.imm ?_)
                | ((with_reducible refine Grow.intro ?_ fun b cap hb hc1 hc2 => ?_); omega) <;> (try simp -dsimp -implicitDefEqProofs [*] at hb)
                | (with_reducible refine DrawLate.intro [] ?_)
                | (with_reducible refine Cls_and ?_ ?_)
                | (with_reducible exact Cls.self _ _)
                | (with_reducible refine Cls_same ?_)
                | (with_reducible refine Cls_in ?_ ?_)
                | (with_reducible refine Cls_fresh ?_ ?_)
                | (with_reducible refine And.intro (fun h => ?_) (fun h => ?_)) <;> (try (exfalso; omega))
                | (with_reducible refine And.intro (fun h => ?_) ?_) <;> (try (exfalso; omega))
                | ((with_reducible refine and_keep ?_ fun hk => ?_); omega)
                | (simp -dsimp -implicitDefEqProofs [*]))
              refine xappend_accB Decision.row_len Decision.row_append b a' hb.weak ha' [d[i]] (by simp) rfl (by omega) (by omega) fun b' hb' hl' => ?_
              have k2 : Hid (accL b' = (d.take (i + 1)).filter (early u)) := ⟨by rw [hl', kB.out.1 (by simpa using c2)]⟩
              clear hl'
              repeat' (first
                | (with_reducible refine Fresh.intro fun b hb => ?_) <;> (try simp -dsimp -implicitDefEqProofs [*] at hb)
                | (with_reducible refine Lit.imm ?_)
                | ((with_reducible refine Grow.intro ?_ fun b cap hb hc1 hc2 => ?_); omega) <;> (try simp -dsimp -implicitDefEqProofs [*] at hb)
                | (with_reducible refine DrawLate.intro [] ?_)
                | (with_reducible refine Cls_and ?_ ?_)
                | (with_reducible exact Cls.self _ _)
                | (with_reducible refine Cls_same ?_)
                | (with_reducible refine Cls_in ?_ ?_)
                | (with_reducible refine Cls_fresh ?_ ?_)
                | (with_reducible refine And.intro (fun h => ?_) (fun h => ?_)) <;> (try (exfalso; omega))
                | (with_reducible refine And.intro (fun h => ?_) ?_) <;> (try (exfalso; omega))
                | ((with_reducible refine and_keep ?_ fun hk => ?_); omega)
                | (simp -dsimp -implicitDefEqProofs [*]))
              exact NextF.intro kv.out (i + 1, a', b') ⟨by simp only; omega, ha'.weak, hb', k1.out, k2.out⟩ (by simp only; omega) (by simp [CE]) (by repeat' (first | exact StLe.refl _ | (refine StLe_cons (by simp [*]; done) ?_) | (refine StLe_fresh (by simp [*]; done) ?_)))
            · repeat' (first
                | (with_reducible refine Fresh.intro fun b hb => ?_) <;> (try simp -dsimp -implicitDefEqProofs [*] at hb)
                | (with_reducible refine Lit.imm ?_)
                | ((with_reducible refine Grow.intro ?_ fun b cap hb hc1 hc2 => ?_); omega) <;> (try simp -dsimp -implicitDefEqProofs [*] at hb)
                | (with_reducible refine DrawLate.intro [] ?_)
                | (with_reducible refine Cls_and ?_ ?_)
                | (with_reducible exact Cls.self _ _)
                | (with_reducible refine Cls_same ?_)
                | (with_reducible refine Cls_in ?_ ?_)
                | (with_reducible refine Cls_fresh ?_ ?_)
                | (with_reducible refine And.intro (fun h => ?_) (fun h => ?_)) <;> (try (exfalso; omega))
                | (with_reducible refine And.intro (fun h => ?_) ?_) <;> (try (exfalso; omega))
                | ((with_reducible refine and_keep ?_ fun hk => ?_); omega)
                | (simp -dsimp -implicitDefEqProofs [*]))
              refine xappend_accB Decision.row_len Decision.row_append a b ha hb [d[i]] (by simp) rfl (by omega) (by omega) fun a' ha' hl' => ?_
              have k1 : Hid (accL a' = (d.take (i + 1)).filter (late t)) := ⟨by rw [hl', kA.out.1 (by simpa using c1)]⟩
              clear hl'
              have k2 : Hid (accL b = (d.take (i + 1)).filter (early u)) := ⟨by rw [kB.out.2 (by simpa using c2)]⟩
              repeat' (first
                | (with_reducible refine Fresh.intro fun b hb => ?_) <;> (try simp -dsimp -implicitDefEqProofs [*] at hb)
                | (with_reducible refine Lit.imm ?_)
                | ((with_reducible refine Grow.intro ?_ fun b cap hb hc1 hc2 => ?_); omega) <;> (try simp -dsimp -implicitDefEqProofs [*] at hb)
                | (with_reducible refine DrawLate.intro [] ?_)
                | (with_reducible refine Cls_and ?_ ?_)
                | (with_reducible exact Cls.self _ _)
                | (with_reducible refine Cls_same ?_)
                | (with_reducible refine Cls_in ?_ ?_)
                | (with_reducible refine Cls_fresh ?_ ?_)
                | (with_reducible refine And.intro (fun h => ?_) (fun h => ?_)) <;> (try (exfalso; omega))
                | (with_reducible refine And.intro (fun h => ?_) ?_) <;> (try (exfalso; omega))
                | ((with_reducible refine and_keep ?_ fun hk => ?_); omega)
                | (simp -dsimp -implicitDefEqProofs [*]))
              have hs := accOk.swap (T := T.apiDecision) ha' hb.weak
              exact NextF.intro kv.out (i + 1, a', b) ⟨by simp only; omega, hs.1, hs.2, k1.out, k2.out⟩ (by simp only; omega) (by simp [CE]) (StLe.accs_swap ha')
          · have k1 : Hid (accL a = (d.take (i + 1)).filter (late t)) := ⟨by rw [kA.out.2 (by simpa using c1)]⟩
            by_cases c2 : d[i].known ≤ u
            · repeat' (first
                | (with_reducible refine Fresh.intro fun b hb => ?_) <;> (try simp -dsimp -implicitDefEqProofs [*] at hb)
                | (with_reducible refine Lit.imm ?_)
                | ((with_reducible refine Grow.intro ?_ fun b cap hb hc1 hc2 => ?_); omega) <;> (try simp -dsimp -implicitDefEqProofs [*] at hb)
                | (with_reducible refine DrawLate.intro [] ?_)
                | (with_reducible refine Cls_and ?_ ?_)
                | (with_reducible exact Cls.self _ _)
                | (with_reducible refine Cls_same ?_)
                | (with_reducible refine Cls_in ?_ ?_)
                | (with_reducible refine Cls_fresh ?_ ?_)
                | (with_reducible refine And.intro (fun h => ?_) (fun h => ?_)) <;> (try (exfalso; omega))
                | (with_reducible refine And.intro (fun h => ?_) ?_) <;> (try (exfalso; omega))
                | ((with_reducible refine and_keep ?_ fun hk => ?_); omega)
                | (simp -dsimp -implicitDefEqProofs [*]))
              refine xappend_accP Decision.row_len Decision.row_append b hb [d[i]] (by simp) rfl (by omega) (by omega) fun b' hb' hl' => ?_
              have k2 : Hid (accL b' = (d.take (i + 1)).filter (early u)) := ⟨by rw [hl', kB.out.1 (by simpa using c2)]⟩
              clear hl'
              repeat' (first
                | (with_reducible refine Fresh.intro fun b hb => ?_) <;> (try simp -dsimp -implicitDefEqProofs [*] at hb)
                | (with_reducible refine Lit.imm ?_)
                | ((with_reducible refine Grow.intro ?_ fun b cap hb hc1 hc2 => ?_); omega) <;> (try simp -dsimp -implicitDefEqProofs [*] at hb)
                | (with_reducible refine DrawLate.intro [] ?_)
                | (with_reducible refine Cls_and ?_ ?_)
                | (with_reducible exact Cls.self _ _)
                | (with_reducible refine Cls_same ?_)
                | (with_reducible refine Cls_in ?_ ?_)
                | (with_reducible refine Cls_fresh ?_ ?_)
                | (with_reducible refine And.intro (fun h => ?_) (fun h => ?_)) <;> (try (exfalso; omega))
                | (with_reducible refine And.intro (fun h => ?_) ?_) <;> (try (exfalso; omega))
                | ((with_reducible refine and_keep ?_ fun hk => ?_); omega)
                | (simp -dsimp -implicitDefEqProofs [*]))
              exact NextF.intro kv.out (i + 1, a, b') ⟨by simp only; omega, ha, hb', k1.out, k2.out⟩ (by simp only; omega) (by simp [CE]) (by repeat' (first | exact StLe.refl _ | (refine StLe_cons (by simp [*]; done) ?_) | (refine StLe_fresh (by simp [*]; done) ?_)))
            · have k2 : Hid (accL b = (d.take (i + 1)).filter (early u)) := ⟨by rw [kB.out.2 (by simpa using c2)]⟩
              repeat' (first
                | (with_reducible refine Fresh.intro fun b hb => ?_) <;> (try simp -dsimp -implicitDefEqProofs [*] at hb)
                | (with_reducible refine Lit.imm ?_)
                | ((with_reducible refine Grow.intro ?_ fun b cap hb hc1 hc2 => ?_); omega) <;> (try simp -dsimp -implicitDefEqProofs [*] at hb)
                | (with_reducible refine DrawLate.intro [] ?_)
                | (with_reducible refine Cls_and ?_ ?_)
                | (with_reducible exact Cls.self _ _)
                | (with_reducible refine Cls_same ?_)
                | (with_reducible refine Cls_in ?_ ?_)
                | (with_reducible refine Cls_fresh ?_ ?_)
                | (with_reducible refine And.intro (fun h => ?_) (fun h => ?_)) <;> (try (exfalso; omega))
                | (with_reducible refine And.intro (fun h => ?_) ?_) <;> (try (exfalso; omega))
                | ((with_reducible refine and_keep ?_ fun hk => ?_); omega)
                | (simp -dsimp -implicitDefEqProofs [*]))
              exact NextF.intro kv.out (i + 1, a, b) ⟨by simp only; omega, ha, hb, k1.out, k2.out⟩ (by simp only; omega) (by simp [CE]) (by repeat' (first | exact StLe.refl _ | (refine StLe_cons (by simp [*]; done) ?_) | (refine StLe_fresh (by simp [*]; done) ?_)))
      · generalize applyN l d t = N at *
        generalize applyN l d u = N2 at *
        generalize applyL l d t = X at *
        generalize applyL l d u = X2 at *
        repeat' (first
          | (with_reducible refine Fresh.intro fun b hb => ?_) <;> (try simp -dsimp -implicitDefEqProofs [*] at hb)
          | (with_reducible refine Rets.xcall (sane_spec _) ?_)
          | (with_reducible refine Rets.xsoft (sane_spec _) ?_)
          | (with_reducible refine xlateCall_of (fun _ => sane_spec _) ?_)
          | (with_reducible refine Rets.xcall (hfew _) ?_)
          | (with_reducible refine Rets.xsoft (hfew _) ?_)
          | (with_reducible refine xlateCall_of (fun _ => hfew _) ?_)
          | (with_reducible refine Rets.xcall (hap _) ?_)
          | (with_reducible refine Rets.xsoft (hap _) ?_)
          | (with_reducible refine xlateCall_of (fun _ => hap _) ?_)
          | (with_reducible refine Rets.xcall (hau _) ?_)
          | (with_reducible refine Rets.xsoft (hau _) ?_)
          | (with_reducible refine xlateCall_of (fun _ => hau _) ?_)
          | (with_reducible refine Lit.imm ?_)
          | ((with_reducible refine Grow.intro ?_ fun b cap hb hc1 hc2 => ?_); omega) <;> (try simp -dsimp -implicitDefEqProofs [*] at hb)
          | (with_reducible refine DrawLate.intro [] ?_)
          | (with_reducible refine Cls_and ?_ ?_)
          | (with_reducible exact Cls.self _ _)
          | (with_reducible refine Cls_same ?_)
          | (with_reducible refine Cls_in ?_ ?_)
          | (with_reducible refine Cls_fresh ?_ ?_)
          | (with_reducible refine And.intro (fun h => ?_) (fun h => ?_)) <;> (try (exfalso; omega))
          | (with_reducible refine And.intro (fun h => ?_) ?_) <;> (try (exfalso; omega))
          | ((with_reducible refine and_keep ?_ fun hk => ?_); omega)
          | (simp -dsimp -implicitDefEqProofs [*]))
    · generalize applyN l d t = N at *
      generalize applyN l d u = N2 at *
      generalize applyL l d t = X at *
      generalize applyL l d u = X2 at *
      repeat' (first
        | (with_reducible refine Fresh.intro fun b hb => ?_) <;> (try simp -dsimp -implicitDefEqProofs [*] at hb)
        | (with_reducible refine Rets.xcall (sane_spec _) ?_)
        | (with_reducible refine Rets.xsoft (sane_spec _) ?_)
        | (with_reducible refine xlateCall_of (fun _ => sane_spec _) ?_)
        | (with_reducible refine Rets.xcall (hfew _) ?_)
        | (with_reducible refine Rets.xsoft (hfew _) ?_)
        | (with_reducible refine xlateCall_of (fun _ => hfew _) ?_)
        | (with_reducible refine Rets.xcall (hap _) ?_)
        | (with_reducible refine Rets.xsoft (hap _) ?_)
        | (with_reducible refine xlateCall_of (fun _ => hap _) ?_)
        | (with_reducible refine Rets.xcall (hau _) ?_)
        | (with_reducible refine Rets.xsoft (hau _) ?_)
        | (with_reducible refine xlateCall_of (fun _ => hau _) ?_)
        | (with_reducible refine Lit.imm ?_)
        | ((with_reducible refine Grow.intro ?_ fun b cap hb hc1 hc2 => ?_); omega) <;> (try simp -dsimp -implicitDefEqProofs [*] at hb)
        | (with_reducible refine DrawLate.intro [] ?_)
        | (with_reducible refine Cls_and ?_ ?_)
        | (with_reducible exact Cls.self _ _)
        | (with_reducible refine Cls_same ?_)
        | (with_reducible refine Cls_in ?_ ?_)
        | (with_reducible refine Cls_fresh ?_ ?_)
        | (with_reducible refine And.intro (fun h => ?_) (fun h => ?_)) <;> (try (exfalso; omega))
        | (with_reducible refine And.intro (fun h => ?_) ?_) <;> (try (exfalso; omega))
        | ((with_reducible refine and_keep ?_ fun hk => ?_); omega)
        | (simp -dsimp -implicitDefEqProofs [*]))
end Go.Proofs.Ythkjdppifnmakaa
