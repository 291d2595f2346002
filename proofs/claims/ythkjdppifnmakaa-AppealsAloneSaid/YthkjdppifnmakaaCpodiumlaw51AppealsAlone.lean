/- The code of one function. -/
import Derived.Test.YthkjdppifnmakaaCode
import Derived.Test.YthkjdppifnmakaaS51ZA
import Derived.Test.YthkjdppifnmakaaLFr
set_option maxRecDepth 100000
namespace Go.Proofs.Ythkjdppifnmakaa
open Go.Pv
/-- podium/podiumlaw51.AppealsAlone -/
noncomputable def C.podiumlaw51_AppealsAlone : MFunc := ⟨138, 3, [.tmp 6],
  (.seq (.region [
    ⟨(some 6), none, .val (.mv (.const (.bool false)))⟩] [])
  (.seq (.seq (.region [
    ⟨(some 17), none, .call (.const (.func (.func F.podiumlaw51_sane) [] [])) []⟩,
    ⟨(some 18), none, .val (.un .not (.tmp 17))⟩] [17])
  (.cond (.tmp 18)
  (.seq (.region [
    ⟨(some 6), none, .val (.mv (.const (.bool false)))⟩] [])
  .ret)
  .skip))
  (.seq (.seq (.region [
    ⟨(some 19), none, .val (.mv (.tmp 0))⟩,
    ⟨(some 20), none, .val (.mv (.tmp 1))⟩,
    ⟨(some 21), none, .call (.const (.func (.func F.podiumref51_Few) [] [])) [(.tmp 19), (.tmp 20)]⟩,
    ⟨(some 22), none, .val (.un .not (.tmp 21))⟩] [19, 20, 21])
  (.cond (.tmp 22)
  (.seq (.region [
    ⟨(some 6), none, .val (.mv (.const (.bool true)))⟩] [])
  .ret)
  .skip))
  (.seq (.region [
    ⟨(some 24), none, .val (.mv (.tmp 0))⟩,
    ⟨(some 25), none, .val (.mv (.tmp 1))⟩,
    ⟨(some 26), none, .val (.mv (.tmp 2))⟩,
    ⟨(some 27), none, .call (.const (.func (.func F.appeals_Apply) [] [])) [(.tmp 24), (.tmp 25), (.tmp 26)]⟩,
    ⟨(some 23), none, .val (.mv (.tmp 27))⟩,
    ⟨(some 28), none, .val (.extract 0 (.tmp 23))⟩,
    ⟨(some 29), none, .val (.extract 1 (.tmp 23))⟩,
    ⟨(some 7), none, .val (.mv (.tmp 28))⟩,
    ⟨(some 8), none, .val (.mv (.tmp 29))⟩] [24, 25, 26, 27, 23, 28, 29])
  (.seq (.seq (.region [
    ⟨(some 30), none, .val (.mv (.tmp 8))⟩,
    ⟨(some 31), none, .val (.bin .neq T.apiErrno (.tmp 30) (.const (.int 0)))⟩] [30])
  (.cond (.tmp 31)
  (.seq (.region [
    ⟨(some 32), none, .val (.mv (.tmp 7))⟩,
    ⟨(some 33), none, .val (.len (.tmp 32))⟩,
    ⟨(some 34), none, .val (.bin .eql T.int (.tmp 33) (.const (.int 0)))⟩,
    ⟨(some 6), none, .val (.mv (.tmp 34))⟩] [32, 33, 34])
  .ret)
  .skip))
  (.seq (.seq (.region [
    ⟨(some 35), none, .val (.mv (.tmp 7))⟩,
    ⟨(some 36), none, .call (.const (.func (.func F.record_Check) [] [])) [(.tmp 35)]⟩,
    ⟨(some 37), none, .val (.bin .neq T.apiErrno (.tmp 36) (.const (.int 0)))⟩,
    ⟨(some 38), none, .val (.mv (.tmp 37))⟩,
    ⟨(some 39), (some (38, false)), .val (.mv (.tmp 1))⟩,
    ⟨(some 40), (some (38, false)), .call (.const (.func (.func F.appeals_Check) [] [])) [(.tmp 39)]⟩,
    ⟨(some 41), (some (38, false)), .val (.bin .neq T.apiErrno (.tmp 40) (.const (.int 0)))⟩,
    ⟨(some 42), none, .val (.pick (.tmp 38) (.const (.bool true)) (.tmp 41))⟩] [35, 36, 37, 38, 39, 40, 41])
  (.cond (.tmp 42)
  (.seq (.region [
    ⟨(some 6), none, .val (.mv (.const (.bool false)))⟩] [])
  .ret)
  .skip))
  (.seq (.region [
    ⟨(some 9), none, .val (.mv (.const .nil))⟩] [])
  (.seq (.seq (.region [
    ⟨(some 10), none, .val (.mv (.const (.int 0)))⟩] [])
  (.block 0 (.loop (.seq (.seq (.region [
    ⟨(some 43), none, .val (.mv (.tmp 10))⟩,
    ⟨(some 44), none, .val (.mv (.tmp 0))⟩,
    ⟨(some 45), none, .val (.len (.tmp 44))⟩,
    ⟨(some 46), none, .val (.bin .lss T.int (.tmp 43) (.tmp 45))⟩] [43, 44, 45])
  (.cond (.tmp 46)
  .skip
  (.exit 0)))
  (.seq (.block 1 (.region [
    ⟨(some 49), none, .val (.mv (.tmp 9))⟩,
    ⟨(some 50), none, .val (.mv (.tmp 0))⟩,
    ⟨(some 51), none, .val (.mv (.tmp 10))⟩,
    ⟨(some 52), none, .val (.indexAddr 9 (.tmp 50) (.tmp 51))⟩,
    ⟨(some 53), none, .val (.fieldAddr 0 (.tmp 52))⟩,
    ⟨(some 54), none, .val (.load 1 false (.tmp 53))⟩,
    ⟨(some 55), none, .val (.buildSlice T.int 1 [(.int 0)] [(0, 1, (.tmp 54))])⟩,
    ⟨(some 56), none, .append T.int 8 1 (.tmp 49) (.tmp 55)⟩,
    ⟨(some 9), none, .val (.mv (.tmp 56))⟩] [49, 50, 51, 52, 53, 54, 55, 56]))
  (.region [
    ⟨(some 47), none, .val (.mv (.tmp 10))⟩,
    ⟨(some 48), none, .val (.bin .add T.int (.tmp 47) (.const (.int 1)))⟩,
    ⟨(some 10), none, .val (.mv (.tmp 48))⟩] [47, 48]))))))
  (.seq (.seq (.region [
    ⟨(some 11), none, .val (.mv (.const (.int 0)))⟩] [])
  (.block 2 (.loop (.seq (.seq (.region [
    ⟨(some 57), none, .val (.mv (.tmp 11))⟩,
    ⟨(some 58), none, .val (.mv (.tmp 1))⟩,
    ⟨(some 59), none, .val (.len (.tmp 58))⟩,
    ⟨(some 60), none, .val (.bin .lss T.int (.tmp 57) (.tmp 59))⟩] [57, 58, 59])
  (.cond (.tmp 60)
  .skip
  (.exit 2)))
  (.seq (.block 3 (.region [
    ⟨(some 63), none, .val (.mv (.tmp 9))⟩,
    ⟨(some 64), none, .val (.mv (.tmp 1))⟩,
    ⟨(some 65), none, .val (.mv (.tmp 11))⟩,
    ⟨(some 66), none, .val (.indexAddr 14 (.tmp 64) (.tmp 65))⟩,
    ⟨(some 67), none, .val (.load 14 true (.tmp 66))⟩,
    ⟨(some 68), none, .call (.const (.func (.func F.podiumref51_Subject) [] [])) [(.tmp 67)]⟩,
    ⟨(some 69), none, .val (.buildSlice T.int 1 [(.int 0)] [(0, 1, (.tmp 68))])⟩,
    ⟨(some 70), none, .append T.int 8 1 (.tmp 63) (.tmp 69)⟩,
    ⟨(some 9), none, .val (.mv (.tmp 70))⟩] [63, 64, 65, 66, 67, 68, 69, 70]))
  (.region [
    ⟨(some 61), none, .val (.mv (.tmp 11))⟩,
    ⟨(some 62), none, .val (.bin .add T.int (.tmp 61) (.const (.int 1)))⟩,
    ⟨(some 11), none, .val (.mv (.tmp 62))⟩] [61, 62]))))))
  (.seq (.seq (.region [
    ⟨(some 12), none, .val (.mv (.const (.int 0)))⟩] [])
  (.block 4 (.loop (.seq (.seq (.region [
    ⟨(some 71), none, .val (.mv (.tmp 12))⟩,
    ⟨(some 72), none, .val (.mv (.tmp 7))⟩,
    ⟨(some 73), none, .val (.len (.tmp 72))⟩,
    ⟨(some 74), none, .val (.bin .lss T.int (.tmp 71) (.tmp 73))⟩] [71, 72, 73])
  (.cond (.tmp 74)
  .skip
  (.exit 4)))
  (.seq (.block 5 (.region [
    ⟨(some 77), none, .val (.mv (.tmp 9))⟩,
    ⟨(some 78), none, .val (.mv (.tmp 7))⟩,
    ⟨(some 79), none, .val (.mv (.tmp 12))⟩,
    ⟨(some 80), none, .val (.indexAddr 9 (.tmp 78) (.tmp 79))⟩,
    ⟨(some 81), none, .val (.fieldAddr 0 (.tmp 80))⟩,
    ⟨(some 82), none, .val (.load 1 false (.tmp 81))⟩,
    ⟨(some 83), none, .val (.buildSlice T.int 1 [(.int 0)] [(0, 1, (.tmp 82))])⟩,
    ⟨(some 84), none, .append T.int 8 1 (.tmp 77) (.tmp 83)⟩,
    ⟨(some 9), none, .val (.mv (.tmp 84))⟩] [77, 78, 79, 80, 81, 82, 83, 84]))
  (.region [
    ⟨(some 75), none, .val (.mv (.tmp 12))⟩,
    ⟨(some 76), none, .val (.bin .add T.int (.tmp 75) (.const (.int 1)))⟩,
    ⟨(some 12), none, .val (.mv (.tmp 76))⟩] [75, 76]))))))
  (.seq (.seq (.region [
    ⟨(some 13), none, .val (.mv (.const (.int 0)))⟩] [])
  (.block 6 (.loop (.seq (.seq (.region [
    ⟨(some 85), none, .val (.mv (.tmp 13))⟩,
    ⟨(some 86), none, .val (.mv (.tmp 9))⟩,
    ⟨(some 87), none, .val (.len (.tmp 86))⟩,
    ⟨(some 88), none, .val (.bin .lss T.int (.tmp 85) (.tmp 87))⟩] [85, 86, 87])
  (.cond (.tmp 88)
  .skip
  (.exit 6)))
  (.seq (.block 7 (.seq (.region [
    ⟨(some 91), none, .val (.mv (.tmp 1))⟩,
    ⟨(some 92), none, .val (.mv (.tmp 9))⟩,
    ⟨(some 93), none, .val (.mv (.tmp 13))⟩,
    ⟨(some 94), none, .val (.indexAddr 1 (.tmp 92) (.tmp 93))⟩,
    ⟨(some 95), none, .val (.load 1 false (.tmp 94))⟩,
    ⟨(some 96), none, .call (.const (.func (.func F.podiumlaw51_about) [] [])) [(.tmp 91), (.tmp 95)]⟩,
    ⟨(some 14), none, .val (.mv (.tmp 96))⟩] [91, 92, 93, 94, 95, 96])
  (.seq (.region [
    ⟨(some 98), none, .val (.mv (.tmp 0))⟩,
    ⟨(some 99), none, .val (.mv (.tmp 9))⟩,
    ⟨(some 100), none, .val (.mv (.tmp 13))⟩,
    ⟨(some 101), none, .val (.indexAddr 1 (.tmp 99) (.tmp 100))⟩,
    ⟨(some 102), none, .val (.load 1 false (.tmp 101))⟩,
    ⟨(some 103), none, .call (.const (.func (.func F.podiumlaw51_alone) [] [])) [(.tmp 98), (.tmp 102)]⟩,
    ⟨(some 104), none, .val (.mv (.tmp 14))⟩,
    ⟨(some 105), none, .val (.mv (.tmp 2))⟩,
    ⟨(some 106), none, .call (.const (.func (.func F.appeals_Apply) [] [])) [(.tmp 103), (.tmp 104), (.tmp 105)]⟩,
    ⟨(some 97), none, .val (.mv (.tmp 106))⟩,
    ⟨(some 107), none, .val (.extract 0 (.tmp 97))⟩,
    ⟨(some 108), none, .val (.extract 1 (.tmp 97))⟩,
    ⟨(some 15), none, .val (.mv (.tmp 107))⟩,
    ⟨(some 16), none, .val (.mv (.tmp 108))⟩] [98, 99, 100, 101, 102, 103, 104, 105, 106, 97, 107, 108])
  (.seq (.region [
    ⟨(some 109), none, .val (.mv (.tmp 16))⟩,
    ⟨(some 110), none, .val (.bin .neq T.apiErrno (.tmp 109) (.const (.int 0)))⟩,
    ⟨(some 111), none, .val (.mv (.tmp 110))⟩,
    ⟨(some 112), (some (111, false)), .val (.mv (.tmp 15))⟩,
    ⟨(some 113), (some (111, false)), .val (.mv (.tmp 7))⟩,
    ⟨(some 114), (some (111, false)), .val (.mv (.tmp 9))⟩,
    ⟨(some 115), (some (111, false)), .val (.mv (.tmp 13))⟩,
    ⟨(some 116), (some (111, false)), .val (.indexAddr 1 (.tmp 114) (.tmp 115))⟩,
    ⟨(some 117), (some (111, false)), .val (.load 1 false (.tmp 116))⟩,
    ⟨(some 118), (some (111, false)), .call (.const (.func (.func F.podiumlaw51_alone) [] [])) [(.tmp 113), (.tmp 117)]⟩,
    ⟨(some 119), (some (111, false)), .call (.const (.func (.func F.podiumref51_Same) [] [])) [(.tmp 112), (.tmp 118)]⟩,
    ⟨(some 120), (some (111, false)), .val (.un .not (.tmp 119))⟩,
    ⟨(some 121), none, .val (.pick (.tmp 111) (.const (.bool true)) (.tmp 120))⟩,
    ⟨(some 122), none, .val (.mv (.tmp 121))⟩,
    ⟨(some 123), (some (122, false)), .val (.mv (.tmp 14))⟩,
    ⟨(some 124), (some (122, false)), .val (.len (.tmp 123))⟩,
    ⟨(some 125), (some (122, false)), .val (.bin .eql T.int (.tmp 124) (.const (.int 0)))⟩,
    ⟨(some 126), (some (122, false)), .val (.mv (.tmp 125))⟩,
    ⟨(some 127), (some (126, true)), .val (.mv (.tmp 15))⟩,
    ⟨(some 128), (some (126, true)), .val (.mv (.tmp 0))⟩,
    ⟨(some 129), (some (126, true)), .val (.mv (.tmp 9))⟩,
    ⟨(some 130), (some (126, true)), .val (.mv (.tmp 13))⟩,
    ⟨(some 131), (some (126, true)), .val (.indexAddr 1 (.tmp 129) (.tmp 130))⟩,
    ⟨(some 132), (some (126, true)), .val (.load 1 false (.tmp 131))⟩,
    ⟨(some 133), (some (126, true)), .call (.const (.func (.func F.podiumlaw51_alone) [] [])) [(.tmp 128), (.tmp 132)]⟩,
    ⟨(some 134), (some (126, true)), .call (.const (.func (.func F.podiumref51_Same) [] [])) [(.tmp 127), (.tmp 133)]⟩,
    ⟨(some 135), (some (126, true)), .val (.un .not (.tmp 134))⟩,
    ⟨(some 136), (some (122, false)), .val (.pick (.tmp 126) (.tmp 135) (.const (.bool false)))⟩,
    ⟨(some 137), none, .val (.pick (.tmp 122) (.const (.bool true)) (.tmp 136))⟩] [109, 110, 111, 112, 113, 114, 115, 116, 117, 118, 119, 120, 121, 122, 123, 124, 125, 126, 127, 128, 129, 130, 131, 132, 133, 134, 135, 136])
  (.cond (.tmp 137)
  (.seq (.region [
    ⟨(some 6), none, .val (.mv (.const (.bool false)))⟩] [])
  .ret)
  .skip)))))
  (.region [
    ⟨(some 89), none, .val (.mv (.tmp 13))⟩,
    ⟨(some 90), none, .val (.bin .add T.int (.tmp 89) (.const (.int 1)))⟩,
    ⟨(some 13), none, .val (.mv (.tmp 90))⟩] [89, 90]))))))
  (.seq (.region [
    ⟨(some 6), none, .val (.mv (.const (.bool true)))⟩] [])
  .ret))))))))))))⟩
theorem H.podiumlaw51_AppealsAlone : Has P F.podiumlaw51_AppealsAlone C.podiumlaw51_AppealsAlone := ⟨Try.f5, Try.func5, by kernel_rfl, by kernel_rfl⟩
end Go.Proofs.Ythkjdppifnmakaa
/- AppealsAlone. -/
namespace Go.Proofs.Ythkjdppifnmakaa
open Go.Pv
set_option maxRecDepth 100000
set_option maxHeartbeats 4000000
theorem alone_law (ta tb : Bool) (l : List Event) (d : List Decision) (t : Int) (st : Store) : Rets P F.podiumlaw51_AppealsAlone [Event.lst ta l, Decision.lst tb d, .int t] st (.bool true) := by
  refine (H.podiumlaw51_AppealsAlone).pure hmix rfl rfl ?_
  have hfew := few_spec ta tb l d
  cases hf : fewN l.length d.length with
  | false =>
    rw [hf] at hfew
    repeat' (first
      | (with_reducible refine Fresh.intro fun b hb => ?_) <;> (try simp -dsimp -implicitDefEqProofs [*] at hb)
      | (with_reducible refine Rets.xcall (sane_spec _) ?_)
      | (with_reducible refine Rets.xsoft (sane_spec _) ?_)
      | (with_reducible refine xlateCall_of (fun _ => sane_spec _) ?_)
      | (with_reducible refine Rets.xcall (hfew _) ?_)
      | (with_reducible refine Rets.xsoft (hfew _) ?_)
      | (with_reducible refine xlateCall_of (fun _ => hfew _) ?_)
      | (with_reducible refine Lit.imm ?_)
      | ((with_reducible refine Grow.intro ?_ fun b cap hb hc1 hc2 => ?_); omega) <;> (try simp -dsimp -implicitDefEqProofs [*] at hb)
      | (with_reducible refine DrawLate.intro [] ?_)
      | (with_reducible refine Cls_and ?_ ?_)
      | (with_reducible exact Cls.self _ _)
      | (with_reducible refine Cls_same ?_)
      | (with_reducible refine Cls_in ?_ ?_)
      | (with_reducible refine Cls_fresh ?_ ?_)
      | (with_reducible refine And.intro (fun h => ?_) (fun h => ?_)) <;> (try (exfalso; omega))
      | (with_reducible refine And.intro (fun h => ?_) ?_) <;> (try (exfalso; omega))
      | ((with_reducible refine and_keep ?_ fun hk => ?_); omega)
      | (simp -dsimp -implicitDefEqProofs [*]))
  | true =>
    rw [hf] at hfew
    have hd := few_d hf
    have hlen := few_e hf
    have hap := fun st => apply_spec ta tb l d t hd st
    by_cases hN : applyN l d t = 0
    · have M := made hN
      have hX : (applyL l d t).length ≤ 4096 := M.len
      rw [hN] at hap
      generalize applyL l d t = X at *
      have hdd : d.length ≤ 20 := by rcases hd with h | h; exact h; have := M.decs.1; omega
      have hc1 := fun st => check_spec false X st
      rw [M.check] at hc1
      have hc2 := fun st => checkD_spec tb d st
      rw [(standN_zero.1 M.dec).1] at hc2
      clear hN hf hd
      have B : ∀ no st, Rets P F.podiumlaw51_about [Decision.lst tb d, .int no] st (Decision.lst false (aboutL d no)) := fun no st => about_spec tb d (by omega) no st
      have A1 : ∀ no st, Rets P F.podiumlaw51_alone [Event.lst ta l, .int no] st (Event.lst false (aloneL l no)) := fun no st => alone_spec ta l (by omega) no st
      have A2 : ∀ no st, Rets P F.podiumlaw51_alone [Event.lst false X, .int no] st (Event.lst false (aloneL X no)) := fun no st => alone_spec false X (by omega) no st
      have Z : ∀ no st, Rets P F.appeals_Apply [Event.lst false (aloneL l no), Decision.lst false (aboutL d no), .int t] st (.tuple [Event.lst false (aloneL X no), .int 0]) := fun no st => by
        have h := apply_spec false false (aloneL l no) (aboutL d no) t (.inl (Nat.le_trans (List.length_filter_le ..) hdd)) st
        rw [(M.alone no).out.1, (M.alone no).out.2] at h
        exact h
      have S1 : ∀ no st, Rets P F.podiumref51_Same [Event.lst false (aloneL X no), Event.lst false (aloneL X no)] st (.bool true) := fun no st => same_l _ _ _ _ (Nat.le_trans (List.length_filter_le ..) (by omega)) rfl st
      have S2 : ∀ no st, aboutL d no = [] → Rets P F.podiumref51_Same [Event.lst false (aloneL X no), Event.lst false (aloneL l no)] st (.bool true) := fun no st h => same_l _ _ _ _ (Nat.le_trans (List.length_filter_le ..) (by omega)) (M.kept h) st
      clear M
      repeat' (first
        | (with_reducible refine Fresh.intro fun b hb => ?_) <;> (try simp -dsimp -implicitDefEqProofs [*] at hb)
        | (with_reducible refine Rets.xcall (sane_spec _) ?_)
        | (with_reducible refine Rets.xsoft (sane_spec _) ?_)
        | (with_reducible refine xlateCall_of (fun _ => sane_spec _) ?_)
        | (with_reducible refine Rets.xcall (hfew _) ?_)
        | (with_reducible refine Rets.xsoft (hfew _) ?_)
        | (with_reducible refine xlateCall_of (fun _ => hfew _) ?_)
        | (with_reducible refine Rets.xcall (hap _) ?_)
        | (with_reducible refine Rets.xsoft (hap _) ?_)
        | (with_reducible refine xlateCall_of (fun _ => hap _) ?_)
        | (with_reducible refine Rets.xcall (hc1 _) ?_)
        | (with_reducible refine Rets.xsoft (hc1 _) ?_)
        | (with_reducible refine xlateCall_of (fun _ => hc1 _) ?_)
        | (with_reducible refine Rets.xcall (hc2 _) ?_)
        | (with_reducible refine Rets.xsoft (hc2 _) ?_)
        | (with_reducible refine xlateCall_of (fun _ => hc2 _) ?_)
        | (with_reducible refine Lit.imm ?_)
        | ((with_reducible refine Grow.intro ?_ fun b cap hb hc1 hc2 => ?_); omega) <;> (try simp -dsimp -implicitDefEqProofs [*] at hb)
        | (with_reducible refine DrawLate.intro [] ?_)
        | (with_reducible refine Cls_and ?_ ?_)
        | (with_reducible exact Cls.self _ _)
        | (with_reducible refine Cls_same ?_)
        | (with_reducible refine Cls_in ?_ ?_)
        | (with_reducible refine Cls_fresh ?_ ?_)
        | (with_reducible refine And.intro (fun h => ?_) (fun h => ?_)) <;> (try (exfalso; omega))
        | (with_reducible refine And.intro (fun h => ?_) ?_) <;> (try (exfalso; omega))
        | ((with_reducible refine and_keep ?_ fun hk => ?_); omega)
        | (simp -dsimp -implicitDefEqProofs [*]))
      clear hfew hap hc1 hc2
      refine xloop_for (fun y : Nat × Option (Acc Int) => [(0, Event.lst ta l), (1, Decision.lst tb d), (2, .int t), (7, Event.lst false X), (9, accP y.2), (10, .int (y.1 : Nat))]) (fun y => accS T.int st y.2)
        (fun y => y.1 ≤ l.length ∧ accOk intRow 1 st y.2 ∧ (accL y.2).length = y.1) (fun y => l.length - y.1) (0, none) ⟨Nat.zero_le _, trivial, by simp⟩ (by simp) (by simp) ?_
      rintro ⟨i, a⟩ ⟨hi, ha, hF⟩
      simp only at hi ha hF
      have hw := wrap_succ (n := i) (by omega)
      by_cases hil : i < l.length
      · repeat' (first
          | (with_reducible refine Fresh.intro fun b hb => ?_) <;> (try simp -dsimp -implicitDefEqProofs [*] at hb)
          | (with_reducible refine Lit.imm ?_)
          | ((with_reducible refine Grow.intro ?_ fun b cap hb hc1 hc2 => ?_); omega) <;> (try simp -dsimp -implicitDefEqProofs [*] at hb)
          | (with_reducible refine DrawLate.intro [] ?_)
          | (with_reducible refine Cls_and ?_ ?_)
          | (with_reducible exact Cls.self _ _)
          | (with_reducible refine Cls_same ?_)
          | (with_reducible refine Cls_in ?_ ?_)
          | (with_reducible refine Cls_fresh ?_ ?_)
          | (with_reducible refine And.intro (fun h => ?_) (fun h => ?_)) <;> (try (exfalso; omega))
          | (with_reducible refine And.intro (fun h => ?_) ?_) <;> (try (exfalso; omega))
          | ((with_reducible refine and_keep ?_ fun hk => ?_); omega)
          | (simp -dsimp -implicitDefEqProofs [*]))
        refine xappend_accP intRow_len intRow_append a ha [l[i].no] rfl rfl (by omega) (by omega) fun a' ha' hl' => ?_
        have h3 : Hid ((accL a').length = i + 1) := ⟨by rw [hl']; simp [hF]⟩
        clear hl' hF
        repeat' (first
          | (with_reducible refine Fresh.intro fun b hb => ?_) <;> (try simp -dsimp -implicitDefEqProofs [*] at hb)
          | (with_reducible refine Lit.imm ?_)
          | ((with_reducible refine Grow.intro ?_ fun b cap hb hc1 hc2 => ?_); omega) <;> (try simp -dsimp -implicitDefEqProofs [*] at hb)
          | (with_reducible refine DrawLate.intro [] ?_)
          | (with_reducible refine Cls_and ?_ ?_)
          | (with_reducible exact Cls.self _ _)
          | (with_reducible refine Cls_same ?_)
          | (with_reducible refine Cls_in ?_ ?_)
          | (with_reducible refine Cls_fresh ?_ ?_)
          | (with_reducible refine And.intro (fun h => ?_) (fun h => ?_)) <;> (try (exfalso; omega))
          | (with_reducible refine And.intro (fun h => ?_) ?_) <;> (try (exfalso; omega))
          | ((with_reducible refine and_keep ?_ fun hk => ?_); omega)
          | (simp -dsimp -implicitDefEqProofs [*]))
        exact Next.intro (i + 1, a') ⟨by simp only; omega, ha', h3.out⟩ (by simp only; omega) (by simp) (by repeat' (first | exact StLe.refl _ | (refine StLe_cons (by simp [*]; done) ?_) | (refine StLe_fresh (by simp [*]; done) ?_)))
      have e1 : i = l.length := by omega
      subst e1
      repeat' (first
        | (with_reducible refine Fresh.intro fun b hb => ?_) <;> (try simp -dsimp -implicitDefEqProofs [*] at hb)
        | (with_reducible refine Lit.imm ?_)
        | ((with_reducible refine Grow.intro ?_ fun b cap hb hc1 hc2 => ?_); omega) <;> (try simp -dsimp -implicitDefEqProofs [*] at hb)
        | (with_reducible refine DrawLate.intro [] ?_)
        | (with_reducible refine Cls_and ?_ ?_)
        | (with_reducible exact Cls.self _ _)
        | (with_reducible refine Cls_same ?_)
        | (with_reducible refine Cls_in ?_ ?_)
        | (with_reducible refine Cls_fresh ?_ ?_)
        | (with_reducible refine And.intro (fun h => ?_) (fun h => ?_)) <;> (try (exfalso; omega))
        | (with_reducible refine And.intro (fun h => ?_) ?_) <;> (try (exfalso; omega))
        | ((with_reducible refine and_keep ?_ fun hk => ?_); omega)
        | (simp -dsimp -implicitDefEqProofs [*]))
      clear hw hi
      refine xloop_for (fun y : Nat × Option (Acc Int) => [(0, Event.lst ta l), (1, Decision.lst tb d), (2, .int t), (7, Event.lst false X), (9, accP y.2), (11, .int (y.1 : Nat))]) (fun y => accS T.int st y.2)
        (fun y => y.1 ≤ d.length ∧ accOk intRow 1 st y.2 ∧ (accL y.2).length = l.length + y.1) (fun y => d.length - y.1) (0, a) ⟨Nat.zero_le _, ha, hF⟩ (by simp) (by simp) ?_
      clear hF ha
      clear hil a
      rintro ⟨i, a⟩ ⟨hi, ha, hF⟩
      simp only at hi ha hF
      have hw := wrap_succ (n := i) (by omega)
      by_cases hil : i < d.length
      · repeat' (first
          | (with_reducible refine Fresh.intro fun b hb => ?_) <;> (try simp -dsimp -implicitDefEqProofs [*] at hb)
          | (with_reducible refine Rets.xcall (subject_spec _ _) ?_)
          | (with_reducible refine Rets.xsoft (subject_spec _ _) ?_)
          | (with_reducible refine xlateCall_of (fun _ => subject_spec _ _) ?_)
          | (with_reducible refine Lit.imm ?_)
          | ((with_reducible refine Grow.intro ?_ fun b cap hb hc1 hc2 => ?_); omega) <;> (try simp -dsimp -implicitDefEqProofs [*] at hb)
          | (with_reducible refine DrawLate.intro [] ?_)
          | (with_reducible refine Cls_and ?_ ?_)
          | (with_reducible exact Cls.self _ _)
          | (with_reducible refine Cls_same ?_)
          | (with_reducible refine Cls_in ?_ ?_)
          | (with_reducible refine Cls_fresh ?_ ?_)
          | (with_reducible refine And.intro (fun h => ?_) (fun h => ?_)) <;> (try (exfalso; omega))
          | (with_reducible refine And.intro (fun h => ?_) ?_) <;> (try (exfalso; omega))
          | ((with_reducible refine and_keep ?_ fun hk => ?_); omega)
          | (simp -dsimp -implicitDefEqProofs [*]))
        refine xappend_accP intRow_len intRow_append a ha [subj d[i]] rfl rfl (by omega) (by omega) fun a' ha' hl' => ?_
        have h3 : Hid ((accL a').length = l.length + (i + 1)) := ⟨by rw [hl']; simp [hF]; omega⟩
        clear hl' hF
        repeat' (first
          | (with_reducible refine Fresh.intro fun b hb => ?_) <;> (try simp -dsimp -implicitDefEqProofs [*] at hb)
          | (with_reducible refine Lit.imm ?_)
          | ((with_reducible refine Grow.intro ?_ fun b cap hb hc1 hc2 => ?_); omega) <;> (try simp -dsimp -implicitDefEqProofs [*] at hb)
          | (with_reducible refine DrawLate.intro [] ?_)
          | (with_reducible refine Cls_and ?_ ?_)
          | (with_reducible exact Cls.self _ _)
          | (with_reducible refine Cls_same ?_)
          | (with_reducible refine Cls_in ?_ ?_)
          | (with_reducible refine Cls_fresh ?_ ?_)
          | (with_reducible refine And.intro (fun h => ?_) (fun h => ?_)) <;> (try (exfalso; omega))
          | (with_reducible refine And.intro (fun h => ?_) ?_) <;> (try (exfalso; omega))
          | ((with_reducible refine and_keep ?_ fun hk => ?_); omega)
          | (simp -dsimp -implicitDefEqProofs [*]))
        exact Next.intro (i + 1, a') ⟨by simp only; omega, ha', h3.out⟩ (by simp only; omega) (by simp) (by repeat' (first | exact StLe.refl _ | (refine StLe_cons (by simp [*]; done) ?_) | (refine StLe_fresh (by simp [*]; done) ?_)))
      have e1 : i = d.length := by omega
      subst e1
      repeat' (first
        | (with_reducible refine Fresh.intro fun b hb => ?_) <;> (try simp -dsimp -implicitDefEqProofs [*] at hb)
        | (with_reducible refine Lit.imm ?_)
        | ((with_reducible refine Grow.intro ?_ fun b cap hb hc1 hc2 => ?_); omega) <;> (try simp -dsimp -implicitDefEqProofs [*] at hb)
        | (with_reducible refine DrawLate.intro [] ?_)
        | (with_reducible refine Cls_and ?_ ?_)
        | (with_reducible exact Cls.self _ _)
        | (with_reducible refine Cls_same ?_)
        | (with_reducible refine Cls_in ?_ ?_)
        | (with_reducible refine Cls_fresh ?_ ?_)
        | (with_reducible refine And.intro (fun h => ?_) (fun h => ?_)) <;> (try (exfalso; omega))
        | (with_reducible refine And.intro (fun h => ?_) ?_) <;> (try (exfalso; omega))
        | ((with_reducible refine and_keep ?_ fun hk => ?_); omega)
        | (simp -dsimp -implicitDefEqProofs [*]))
      clear hw hi
      refine xloop_for (fun y : Nat × Option (Acc Int) => [(0, Event.lst ta l), (1, Decision.lst tb d), (2, .int t), (7, Event.lst false X), (9, accP y.2), (12, .int (y.1 : Nat))]) (fun y => accS T.int st y.2)
        (fun y => y.1 ≤ X.length ∧ accOk intRow 1 st y.2 ∧ (accL y.2).length = l.length + d.length + y.1) (fun y => X.length - y.1) (0, a) ⟨Nat.zero_le _, ha, hF⟩ (by simp) (by simp) ?_
      clear hF ha
      clear hil a
      rintro ⟨i, a⟩ ⟨hi, ha, hF⟩
      simp only at hi ha hF
      have hw := wrap_succ (n := i) (by omega)
      by_cases hil : i < X.length
      · repeat' (first
          | (with_reducible refine Fresh.intro fun b hb => ?_) <;> (try simp -dsimp -implicitDefEqProofs [*] at hb)
          | (with_reducible refine Lit.imm ?_)
          | ((with_reducible refine Grow.intro ?_ fun b cap hb hc1 hc2 => ?_); omega) <;> (try simp -dsimp -implicitDefEqProofs [*] at hb)
          | (with_reducible refine DrawLate.intro [] ?_)
          | (with_reducible refine Cls_and ?_ ?_)
          | (with_reducible exact Cls.self _ _)
          | (with_reducible refine Cls_same ?_)
          | (with_reducible refine Cls_in ?_ ?_)
          | (with_reducible refine Cls_fresh ?_ ?_)
          | (with_reducible refine And.intro (fun h => ?_) (fun h => ?_)) <;> (try (exfalso; omega))
          | (with_reducible refine And.intro (fun h => ?_) ?_) <;> (try (exfalso; omega))
          | ((with_reducible refine and_keep ?_ fun hk => ?_); omega)
          | (simp -dsimp -implicitDefEqProofs [*]))
        refine xappend_accP intRow_len intRow_append a ha [X[i].no] rfl rfl (by omega) (by omega) fun a' ha' hl' => ?_
        have h3 : Hid ((accL a').length = l.length + d.length + (i + 1)) := ⟨by rw [hl']; simp [hF]; omega⟩
        clear hl' hF
        repeat' (first
          | (with_reducible refine Fresh.intro fun b hb => ?_) <;> (try simp -dsimp -implicitDefEqProofs [*] at hb)
          | (with_reducible refine Lit.imm ?_)
          | ((with_reducible refine Grow.intro ?_ fun b cap hb hc1 hc2 => ?_); omega) <;> (try simp -dsimp -implicitDefEqProofs [*] at hb)
          | (with_reducible refine DrawLate.intro [] ?_)
          | (with_reducible refine Cls_and ?_ ?_)
          | (with_reducible exact Cls.self _ _)
          | (with_reducible refine Cls_same ?_)
          | (with_reducible refine Cls_in ?_ ?_)
          | (with_reducible refine Cls_fresh ?_ ?_)
          | (with_reducible refine And.intro (fun h => ?_) (fun h => ?_)) <;> (try (exfalso; omega))
          | (with_reducible refine And.intro (fun h => ?_) ?_) <;> (try (exfalso; omega))
          | ((with_reducible refine and_keep ?_ fun hk => ?_); omega)
          | (simp -dsimp -implicitDefEqProofs [*]))
        exact Next.intro (i + 1, a') ⟨by simp only; omega, ha', h3.out⟩ (by simp only; omega) (by simp) (by repeat' (first | exact StLe.refl _ | (refine StLe_cons (by simp [*]; done) ?_) | (refine StLe_fresh (by simp [*]; done) ?_)))
      have e1 : i = X.length := by omega
      subst e1
      repeat' (first
        | (with_reducible refine Fresh.intro fun b hb => ?_) <;> (try simp -dsimp -implicitDefEqProofs [*] at hb)
        | (with_reducible refine Lit.imm ?_)
        | ((with_reducible refine Grow.intro ?_ fun b cap hb hc1 hc2 => ?_); omega) <;> (try simp -dsimp -implicitDefEqProofs [*] at hb)
        | (with_reducible refine DrawLate.intro [] ?_)
        | (with_reducible refine Cls_and ?_ ?_)
        | (with_reducible exact Cls.self _ _)
        | (with_reducible refine Cls_same ?_)
        | (with_reducible refine Cls_in ?_ ?_)
        | (with_reducible refine Cls_fresh ?_ ?_)
        | (with_reducible refine And.intro (fun h => ?_) (fun h => ?_)) <;> (try (exfalso; omega))
        | (with_reducible refine And.intro (fun h => ?_) ?_) <;> (try (exfalso; omega))
        | ((with_reducible refine and_keep ?_ fun hk => ?_); omega)
        | (simp -dsimp -implicitDefEqProofs [*]))
      clear hw hi
      have hA : (accL a).length ≤ 100000 := by omega
      refine xloop_view (fun y : Nat => [(0, Event.lst ta l), (1, Decision.lst tb d), (2, .int t), (7, Event.lst false X), (9, intLst false (accL a)), (13, .int (y : Nat))]) (fun _ => st)
        (fun y => y ≤ (accL a).length) (fun y => (accL a).length - y) 0 (Nat.zero_le _) (View.acc (row := intRow) rfl ha (.refl _) (by simp)) ?_
      clear hF ha hil
      generalize accL a = A at *
      clear a
      intro i hi
      have hw := wrap_succ (n := i) (by omega)
      by_cases hil : i < A.length
      · by_cases he : aboutL d A[i] = []
        · have S3 := fun st => S2 A[i] st he
          have S4 := fun st => S1 A[i] st
          have Z1 := fun st => Z A[i] st
          rw [he] at Z1
          have B1 := fun st => B A[i] st
          rw [he] at B1
          repeat' (first
            | (with_reducible refine Fresh.intro fun b hb => ?_) <;> (try simp -dsimp -implicitDefEqProofs [*] at hb)
            | (with_reducible refine Rets.xcall (B1 _) ?_)
            | (with_reducible refine Rets.xsoft (B1 _) ?_)
            | (with_reducible refine xlateCall_of (fun _ => B1 _) ?_)
            | (with_reducible refine Rets.xcall (A1 _ _) ?_)
            | (with_reducible refine Rets.xsoft (A1 _ _) ?_)
            | (with_reducible refine xlateCall_of (fun _ => A1 _ _) ?_)
            | (with_reducible refine Rets.xcall (A2 _ _) ?_)
            | (with_reducible refine Rets.xsoft (A2 _ _) ?_)
            | (with_reducible refine xlateCall_of (fun _ => A2 _ _) ?_)
            | (with_reducible refine Rets.xcall (Z1 _) ?_)
            | (with_reducible refine Rets.xsoft (Z1 _) ?_)
            | (with_reducible refine xlateCall_of (fun _ => Z1 _) ?_)
            | (with_reducible refine Rets.xcall (S4 _) ?_)
            | (with_reducible refine Rets.xsoft (S4 _) ?_)
            | (with_reducible refine xlateCall_of (fun _ => S4 _) ?_)
            | (with_reducible refine Rets.xcall (S3 _) ?_)
            | (with_reducible refine Rets.xsoft (S3 _) ?_)
            | (with_reducible refine xlateCall_of (fun _ => S3 _) ?_)
            | (with_reducible refine Lit.imm ?_)
            | ((with_reducible refine Grow.intro ?_ fun b cap hb hc1 hc2 => ?_); omega) <;> (try simp -dsimp -implicitDefEqProofs [*] at hb)
            | (with_reducible refine DrawLate.intro [] ?_)
            | (with_reducible refine Cls_and ?_ ?_)
            | (with_reducible exact Cls.self _ _)
            | (with_reducible refine Cls_same ?_)
            | (with_reducible refine Cls_in ?_ ?_)
            | (with_reducible refine Cls_fresh ?_ ?_)
            | (with_reducible refine And.intro (fun h => ?_) (fun h => ?_)) <;> (try (exfalso; omega))
            | (with_reducible refine And.intro (fun h => ?_) ?_) <;> (try (exfalso; omega))
            | ((with_reducible refine and_keep ?_ fun hk => ?_); omega)
            | (simp -dsimp -implicitDefEqProofs [*]))
          exact Next.intro (i + 1) (by omega) (by omega) (by simp) (by repeat' (first | exact StLe.refl _ | (refine StLe_cons (by simp [*]; done) ?_) | (refine StLe_fresh (by simp [*]; done) ?_)))
        · have he' : ¬ (aboutL d A[i]).length = 0 := fun e => he (List.length_eq_zero_iff.1 e)
          have S4 := fun st => S1 A[i] st
          repeat' (first
            | (with_reducible refine Fresh.intro fun b hb => ?_) <;> (try simp -dsimp -implicitDefEqProofs [*] at hb)
            | (with_reducible refine Rets.xcall (B _ _) ?_)
            | (with_reducible refine Rets.xsoft (B _ _) ?_)
            | (with_reducible refine xlateCall_of (fun _ => B _ _) ?_)
            | (with_reducible refine Rets.xcall (A1 _ _) ?_)
            | (with_reducible refine Rets.xsoft (A1 _ _) ?_)
            | (with_reducible refine xlateCall_of (fun _ => A1 _ _) ?_)
            | (with_reducible refine Rets.xcall (A2 _ _) ?_)
            | (with_reducible refine Rets.xsoft (A2 _ _) ?_)
            | (with_reducible refine xlateCall_of (fun _ => A2 _ _) ?_)
            | (with_reducible refine Rets.xcall (Z _ _) ?_)
            | (with_reducible refine Rets.xsoft (Z _ _) ?_)
            | (with_reducible refine xlateCall_of (fun _ => Z _ _) ?_)
            | (with_reducible refine Rets.xcall (S4 _) ?_)
            | (with_reducible refine Rets.xsoft (S4 _) ?_)
            | (with_reducible refine xlateCall_of (fun _ => S4 _) ?_)
            | (with_reducible refine Lit.imm ?_)
            | ((with_reducible refine Grow.intro ?_ fun b cap hb hc1 hc2 => ?_); omega) <;> (try simp -dsimp -implicitDefEqProofs [*] at hb)
            | (with_reducible refine DrawLate.intro [] ?_)
            | (with_reducible refine Cls_and ?_ ?_)
            | (with_reducible exact Cls.self _ _)
            | (with_reducible refine Cls_same ?_)
            | (with_reducible refine Cls_in ?_ ?_)
            | (with_reducible refine Cls_fresh ?_ ?_)
            | (with_reducible refine And.intro (fun h => ?_) (fun h => ?_)) <;> (try (exfalso; omega))
            | (with_reducible refine And.intro (fun h => ?_) ?_) <;> (try (exfalso; omega))
            | ((with_reducible refine and_keep ?_ fun hk => ?_); omega)
            | (simp -dsimp -implicitDefEqProofs [*]))
          exact Next.intro (i + 1) (by omega) (by omega) (by simp) (by repeat' (first | exact StLe.refl _ | (refine StLe_cons (by simp [*]; done) ?_) | (refine StLe_fresh (by simp [*]; done) ?_)))
      · repeat' (first
          | (with_reducible refine Fresh.intro fun b hb => ?_) <;> (try simp -dsimp -implicitDefEqProofs [*] at hb)
          | (with_reducible refine Lit.imm ?_)
          | ((with_reducible refine Grow.intro ?_ fun b cap hb hc1 hc2 => ?_); omega) <;> (try simp -dsimp -implicitDefEqProofs [*] at hb)
          | (with_reducible refine DrawLate.intro [] ?_)
          | (with_reducible refine Cls_and ?_ ?_)
          | (with_reducible exact Cls.self _ _)
          | (with_reducible refine Cls_same ?_)
          | (with_reducible refine Cls_in ?_ ?_)
          | (with_reducible refine Cls_fresh ?_ ?_)
          | (with_reducible refine And.intro (fun h => ?_) (fun h => ?_)) <;> (try (exfalso; omega))
          | (with_reducible refine And.intro (fun h => ?_) ?_) <;> (try (exfalso; omega))
          | ((with_reducible refine and_keep ?_ fun hk => ?_); omega)
          | (simp -dsimp -implicitDefEqProofs [*]))
    · have h0 : applyL l d t = [] := by simp [applyL, hN]
      rw [h0] at hap
      generalize applyN l d t = N at *
      repeat' (first
        | (with_reducible refine Fresh.intro fun b hb => ?_) <;> (try simp -dsimp -implicitDefEqProofs [*] at hb)
        | (with_reducible refine Rets.xcall (sane_spec _) ?_)
        | (with_reducible refine Rets.xsoft (sane_spec _) ?_)
        | (with_reducible refine xlateCall_of (fun _ => sane_spec _) ?_)
        | (with_reducible refine Rets.xcall (hfew _) ?_)
        | (with_reducible refine Rets.xsoft (hfew _) ?_)
        | (with_reducible refine xlateCall_of (fun _ => hfew _) ?_)
        | (with_reducible refine Rets.xcall (hap _) ?_)
        | (with_reducible refine Rets.xsoft (hap _) ?_)
        | (with_reducible refine xlateCall_of (fun _ => hap _) ?_)
        | (with_reducible refine Lit.imm ?_)
        | ((with_reducible refine Grow.intro ?_ fun b cap hb hc1 hc2 => ?_); omega) <;> (try simp -dsimp -implicitDefEqProofs [*] at hb)
        | (with_reducible refine DrawLate.intro [] ?_)
        | (with_reducible refine Cls_and ?_ ?_)
        | (with_reducible exact Cls.self _ _)
        | (with_reducible refine Cls_same ?_)
        | (with_reducible refine Cls_in ?_ ?_)
        | (with_reducible refine Cls_fresh ?_ ?_)
        | (with_reducible refine And.intro (fun h => ?_) (fun h => ?_)) <;> (try (exfalso; omega))
        | (with_reducible refine And.intro (fun h => ?_) ?_) <;> (try (exfalso; omega))
        | ((with_reducible refine and_keep ?_ fun hk => ?_); omega)
        | (simp -dsimp -implicitDefEqProofs [*]))
end Go.Proofs.Ythkjdppifnmakaa
