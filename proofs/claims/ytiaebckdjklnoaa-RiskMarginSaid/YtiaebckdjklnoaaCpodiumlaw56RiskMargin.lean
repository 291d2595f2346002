/- The code of one function. -/
import Derived.Test.YtiaebckdjklnoaaCode
import Derived.Test.YtiaebckdjklnoaaCpodiumlaw56RiskMonotone
set_option maxRecDepth 100000
namespace Go.Proofs.Ytiaebckdjklnoaa
open Go.Pv
/-- podium/podiumlaw56.RiskMargin -/
noncomputable def C.podiumlaw56_RiskMargin : MFunc := ⟨124, 2, [.tmp 4],
  (.seq (.region [
    ⟨(some 4), none, .val (.mv (.const (.bool false)))⟩] [])
  (.seq (.seq (.region [
    ⟨(some 17), none, .call (.const (.func (.func F.podiumlaw56_sane) [] [])) []⟩,
    ⟨(some 18), none, .val (.un .not (.tmp 17))⟩] [17])
  (.cond (.tmp 18)
  (.seq (.region [
    ⟨(some 4), none, .val (.mv (.const (.bool false)))⟩] [])
  .ret)
  .skip))
  (.seq (.seq (.region [
    ⟨(some 19), none, .val (.mv (.tmp 1))⟩,
    ⟨(some 20), none, .val (.len (.tmp 19))⟩,
    ⟨(some 21), none, .val (.bin .gtr T.int (.tmp 20) (.const (.int 9)))⟩] [19, 20])
  (.cond (.tmp 21)
  (.seq (.region [
    ⟨(some 4), none, .val (.mv (.const (.bool true)))⟩] [])
  .ret)
  .skip))
  (.seq (.region [
    ⟨(some 23), none, .val (.mv (.tmp 0))⟩,
    ⟨(some 24), none, .val (.mv (.tmp 1))⟩,
    ⟨(some 25), none, .call (.const (.func (.func F.risk_Margin) [] [])) [(.tmp 23), (.tmp 24)]⟩,
    ⟨(some 22), none, .val (.mv (.tmp 25))⟩,
    ⟨(some 26), none, .val (.extract 0 (.tmp 22))⟩,
    ⟨(some 27), none, .val (.extract 1 (.tmp 22))⟩,
    ⟨(some 5), none, .val (.mv (.tmp 26))⟩,
    ⟨(some 6), none, .val (.mv (.tmp 27))⟩] [23, 24, 25, 22, 26, 27])
  (.seq (.region [
    ⟨(some 28), none, .val (.mv (.tmp 0))⟩,
    ⟨(some 29), none, .val (.bin .geq T.int (.tmp 28) (.const (.int 0)))⟩,
    ⟨(some 30), none, .val (.mv (.tmp 29))⟩,
    ⟨(some 31), (some (30, true)), .val (.mv (.tmp 0))⟩,
    ⟨(some 32), (some (30, true)), .val (.bin .leq T.int (.tmp 31) (.const (.int 1099511627776)))⟩,
    ⟨(some 33), none, .val (.pick (.tmp 30) (.tmp 32) (.const (.bool false)))⟩,
    ⟨(some 7), none, .val (.mv (.tmp 33))⟩] [28, 29, 30, 31, 32, 33])
  (.seq (.seq (.region [
    ⟨(some 34), none, .val (.mv (.tmp 1))⟩,
    ⟨(some 35), none, .val (.len (.tmp 34))⟩,
    ⟨(some 36), none, .val (.mv (.const (.int 0)))⟩] [])
  (.block 0 (.loop (.seq (.region [
    ⟨(some 37), none, .val (.bin .lss T.int (.tmp 36) (.tmp 35))⟩] [])
  (.seq (.cond (.tmp 37)
  .skip
  (.exit 0))
  (.seq (.block 1 (.seq (.region [
    ⟨(some 38), none, .val (.indexAddr 1 (.tmp 34) (.tmp 36))⟩,
    ⟨(some 39), none, .val (.load 1 false (.tmp 38))⟩,
    ⟨(some 9), none, .val (.mv (.tmp 39))⟩] [38, 39])
  (.region [
    ⟨(some 40), none, .val (.mv (.tmp 7))⟩,
    ⟨(some 41), none, .val (.mv (.tmp 40))⟩,
    ⟨(some 42), (some (41, true)), .val (.mv (.tmp 9))⟩,
    ⟨(some 43), (some (41, true)), .val (.bin .geq T.int (.tmp 42) (.const (.int 0)))⟩,
    ⟨(some 44), none, .val (.pick (.tmp 41) (.tmp 43) (.const (.bool false)))⟩,
    ⟨(some 45), none, .val (.mv (.tmp 44))⟩,
    ⟨(some 46), (some (45, true)), .val (.mv (.tmp 9))⟩,
    ⟨(some 47), (some (45, true)), .val (.bin .leq T.int (.tmp 46) (.const (.int 1048576)))⟩,
    ⟨(some 48), none, .val (.pick (.tmp 45) (.tmp 47) (.const (.bool false)))⟩,
    ⟨(some 7), none, .val (.mv (.tmp 48))⟩] [40, 41, 42, 43, 44, 45, 46, 47, 48])))
  (.region [
    ⟨(some 49), none, .val (.bin .add T.int (.tmp 36) (.const (.int 1)))⟩,
    ⟨(some 36), none, .val (.mv (.tmp 49))⟩] [49])))))))
  (.seq (.seq (.region [
    ⟨(some 50), none, .val (.mv (.tmp 7))⟩,
    ⟨(some 51), none, .val (.un .not (.tmp 50))⟩] [50])
  (.cond (.tmp 51)
  (.seq (.region [
    ⟨(some 52), none, .val (.mv (.tmp 6))⟩,
    ⟨(some 53), none, .val (.bin .eql T.apiErrno (.tmp 52) (.const (.int 1)))⟩,
    ⟨(some 54), none, .val (.mv (.tmp 53))⟩,
    ⟨(some 55), (some (54, true)), .val (.mv (.tmp 5))⟩,
    ⟨(some 56), (some (54, true)), .val (.bin .eql T.int (.tmp 55) (.const (.int 0)))⟩,
    ⟨(some 57), none, .val (.pick (.tmp 54) (.tmp 56) (.const (.bool false)))⟩,
    ⟨(some 4), none, .val (.mv (.tmp 57))⟩] [52, 53, 54, 55, 56, 57])
  .ret)
  .skip))
  (.seq (.seq (.region [
    ⟨(some 58), none, .val (.mv (.tmp 6))⟩,
    ⟨(some 59), none, .val (.bin .neq T.apiErrno (.tmp 58) (.const (.int 0)))⟩,
    ⟨(some 60), none, .val (.mv (.tmp 59))⟩,
    ⟨(some 61), (some (60, false)), .val (.mv (.tmp 5))⟩,
    ⟨(some 62), (some (60, false)), .val (.bin .lss T.int (.tmp 61) (.const (.int 0)))⟩,
    ⟨(some 63), none, .val (.pick (.tmp 60) (.const (.bool true)) (.tmp 62))⟩,
    ⟨(some 64), none, .val (.mv (.tmp 63))⟩,
    ⟨(some 65), (some (64, false)), .val (.mv (.tmp 5))⟩,
    ⟨(some 66), (some (64, false)), .val (.mv (.tmp 1))⟩,
    ⟨(some 67), (some (64, false)), .val (.len (.tmp 66))⟩,
    ⟨(some 68), (some (64, false)), .val (.bin .add T.int (.tmp 67) (.const (.int 1)))⟩,
    ⟨(some 69), (some (64, false)), .val (.bin .gtr T.int (.tmp 65) (.tmp 68))⟩,
    ⟨(some 70), none, .val (.pick (.tmp 64) (.const (.bool true)) (.tmp 69))⟩] [58, 59, 60, 61, 62, 63, 64, 65, 66, 67, 68, 69])
  (.cond (.tmp 70)
  (.seq (.region [
    ⟨(some 4), none, .val (.mv (.const (.bool false)))⟩] [])
  .ret)
  .skip))
  (.seq (.region [
    ⟨(some 71), none, .val (.mv (.tmp 1))⟩,
    ⟨(some 72), none, .val (.len (.tmp 71))⟩,
    ⟨(some 73), none, .val (.bin .add T.int (.tmp 72) (.const (.int 1)))⟩,
    ⟨(some 74), none, .mkSlice T.int 8 1 [(.int 0)] (.tmp 73) (.tmp 73)⟩,
    ⟨(some 10), none, .val (.mv (.tmp 74))⟩] [71, 72, 73, 74])
  (.seq (.seq (.region [
    ⟨(some 75), none, .val (.mv (.tmp 1))⟩,
    ⟨(some 76), none, .val (.len (.tmp 75))⟩,
    ⟨(some 77), none, .val (.bin .shl T.int (.const (.int 1)) (.tmp 76))⟩,
    ⟨(some 78), none, .val (.mv (.const (.int 0)))⟩] [75, 76])
  (.block 2 (.loop (.seq (.region [
    ⟨(some 79), none, .val (.bin .lss T.int (.tmp 78) (.tmp 77))⟩] [])
  (.seq (.cond (.tmp 79)
  .skip
  (.exit 2))
  (.seq (.block 3 (.seq (.region [
    ⟨(some 80), none, .val (.mv (.tmp 78))⟩,
    ⟨(some 11), none, .val (.mv (.tmp 80))⟩] [80])
  (.seq (.region [
    ⟨(some 12), none, .val (.mv (.const (.int 0)))⟩] [])
  (.seq (.seq (.region [
    ⟨(some 81), none, .val (.mv (.tmp 1))⟩,
    ⟨(some 82), none, .val (.len (.tmp 81))⟩,
    ⟨(some 83), none, .val (.mv (.const (.int 0)))⟩] [])
  (.block 4 (.loop (.seq (.region [
    ⟨(some 84), none, .val (.bin .lss T.int (.tmp 83) (.tmp 82))⟩] [])
  (.seq (.cond (.tmp 84)
  .skip
  (.exit 4))
  (.seq (.block 5 (.seq (.region [
    ⟨(some 85), none, .val (.mv (.tmp 83))⟩,
    ⟨(some 86), none, .val (.indexAddr 1 (.tmp 81) (.tmp 83))⟩,
    ⟨(some 87), none, .val (.load 1 false (.tmp 86))⟩,
    ⟨(some 13), none, .val (.mv (.tmp 85))⟩,
    ⟨(some 14), none, .val (.mv (.tmp 87))⟩] [85, 86, 87])
  (.seq (.region [
    ⟨(some 88), none, .val (.mv (.tmp 11))⟩,
    ⟨(some 89), none, .val (.mv (.tmp 13))⟩,
    ⟨(some 90), none, .val (.bin .shr T.int (.tmp 88) (.tmp 89))⟩,
    ⟨(some 91), none, .val (.bin .and T.int (.tmp 90) (.const (.int 1)))⟩,
    ⟨(some 92), none, .val (.bin .eql T.int (.tmp 91) (.const (.int 1)))⟩] [88, 89, 90, 91])
  (.cond (.tmp 92)
  (.region [
    ⟨(some 93), none, .val (.mv (.tmp 12))⟩,
    ⟨(some 94), none, .val (.mv (.tmp 14))⟩,
    ⟨(some 95), none, .val (.bin .add T.int (.tmp 93) (.tmp 94))⟩,
    ⟨(some 12), none, .val (.mv (.tmp 95))⟩] [93, 94, 95])
  .skip))))
  (.region [
    ⟨(some 96), none, .val (.bin .add T.int (.tmp 83) (.const (.int 1)))⟩,
    ⟨(some 83), none, .val (.mv (.tmp 96))⟩] [96])))))))
  (.region [
    ⟨(some 97), none, .val (.mv (.tmp 10))⟩,
    ⟨(some 98), none, .val (.mv (.tmp 11))⟩,
    ⟨(some 99), none, .call (.const (.func (.func F.podiumlaw56_count) [] [])) [(.tmp 98)]⟩,
    ⟨(some 100), none, .val (.mv (.tmp 10))⟩,
    ⟨(some 101), none, .val (.mv (.tmp 11))⟩,
    ⟨(some 102), none, .call (.const (.func (.func F.podiumlaw56_count) [] [])) [(.tmp 101)]⟩,
    ⟨(some 103), none, .val (.indexAddr 1 (.tmp 100) (.tmp 102))⟩,
    ⟨(some 104), none, .val (.load 1 false (.tmp 103))⟩,
    ⟨(some 105), none, .val (.mv (.tmp 12))⟩,
    ⟨(some 106), none, .val (.minmax true [(.tmp 104), (.tmp 105)])⟩,
    ⟨(some 107), none, .val (.indexAddr 1 (.tmp 97) (.tmp 99))⟩,
    ⟨none, none, .store 1 (.tmp 107) (.tmp 106)⟩] [97, 98, 99, 100, 101, 102, 103, 104, 105, 106, 107])))))
  (.region [
    ⟨(some 108), none, .val (.bin .add T.int (.tmp 78) (.const (.int 1)))⟩,
    ⟨(some 78), none, .val (.mv (.tmp 108))⟩] [108])))))))
  (.seq (.seq (.region [
    ⟨(some 109), none, .val (.mv (.tmp 10))⟩,
    ⟨(some 110), none, .val (.len (.tmp 109))⟩,
    ⟨(some 111), none, .val (.mv (.const (.int 0)))⟩] [])
  (.block 6 (.loop (.seq (.region [
    ⟨(some 112), none, .val (.bin .lss T.int (.tmp 111) (.tmp 110))⟩] [])
  (.seq (.cond (.tmp 112)
  .skip
  (.exit 6))
  (.seq (.block 7 (.seq (.region [
    ⟨(some 113), none, .val (.mv (.tmp 111))⟩,
    ⟨(some 114), none, .val (.indexAddr 1 (.tmp 109) (.tmp 111))⟩,
    ⟨(some 115), none, .val (.load 1 false (.tmp 114))⟩,
    ⟨(some 15), none, .val (.mv (.tmp 113))⟩,
    ⟨(some 16), none, .val (.mv (.tmp 115))⟩] [113, 114, 115])
  (.seq (.region [
    ⟨(some 116), none, .val (.mv (.tmp 16))⟩,
    ⟨(some 117), none, .val (.mv (.tmp 0))⟩,
    ⟨(some 118), none, .val (.bin .geq T.int (.tmp 116) (.tmp 117))⟩,
    ⟨(some 119), none, .val (.mv (.tmp 15))⟩,
    ⟨(some 120), none, .val (.mv (.tmp 5))⟩,
    ⟨(some 121), none, .val (.bin .geq T.int (.tmp 119) (.tmp 120))⟩,
    ⟨(some 122), none, .val (.eqBool true (.tmp 118) (.tmp 121))⟩] [116, 117, 118, 119, 120, 121])
  (.cond (.tmp 122)
  (.seq (.region [
    ⟨(some 4), none, .val (.mv (.const (.bool false)))⟩] [])
  .ret)
  .skip))))
  (.region [
    ⟨(some 123), none, .val (.bin .add T.int (.tmp 111) (.const (.int 1)))⟩,
    ⟨(some 111), none, .val (.mv (.tmp 123))⟩] [123])))))))
  (.seq (.region [
    ⟨(some 4), none, .val (.mv (.const (.bool true)))⟩] [])
  .ret))))))))))))⟩
theorem H.podiumlaw56_RiskMargin : Has P F.podiumlaw56_RiskMargin C.podiumlaw56_RiskMargin := ⟨Try.f6, Try.func6, by kernel_rfl, by kernel_rfl⟩
end Go.Proofs.Ytiaebckdjklnoaa
/- RiskMargin. -/
namespace Go.Proofs.Ytiaebckdjklnoaa
open Go.Pv
set_option maxRecDepth 100000
set_option maxHeartbeats 8000000
theorem margin_bad {gap : Int} {l : List Int} (hg : 0 ≤ gap ∧ gap ≤ 1099511627776) (h : ¬ ∀ x ∈ l, 0 ≤ x ∧ x ≤ 1048576) (hn : l.length ≤ 4096) (t : Bool) (st : Store) : Rets P F.risk_Margin [.int gap, intLst t l] st (.tuple [.int 0, .int 1]) := by
  have c1 := within_spec gap 1099511627776
  have c2 := containsFunc_spec F.risk_Margin_1 (fun n => !wi n 1048576) (fun d st => odd1_spec d st) t l (by omega)
  have e1 : wi gap 1099511627776 = true := by simp [wi, hg]
  have e2 : l.any (fun n => !wi n 1048576) = true := by
    cases h2 : l.any (fun n => !wi n 1048576) with
    | true => rfl
    | false =>
      rw [List.any_eq_false] at h2
      exact absurd (fun x hx => by have := h2 x hx; simpa [wi] using this) h
  rw [e1] at c1
  rw [e2] at c2
  clear h hg e1 e2
  have h : ¬ (4096 : Int) < l.length := by omega
  refine H.risk_Margin.view hmix rfl rfl ?_
  repeat' (first 
   | (with_reducible refine Rets.xcall (c1 _) ?_)
   | (with_reducible refine Rets.xcall (c2 _) ?_)
   | (simp -dsimp -implicitDefEqProofs [*]))
  exact RetView.drop (st' := st) (by repeat' (first | exact StLe.refl _ | (refine StLe_cons (by simp [*]; done) ?_) | (refine StLe_fresh (by simp [*]; done) ?_))) ⟨rfl, rfl⟩
theorem maskS_le {M : Int} (hM : 0 ≤ M) : ∀ {l : List Int} (_ : ∀ x ∈ l, x ≤ M) (m : Nat), maskS l m ≤ l.length * M
  | [], _, _ => by simp [maskS]
  | x :: l, h, m => by
    have h1 := maskS_le hM (l := l) (fun y hy => h y (by simp [hy])) (m / 2)
    have h2 := h x (by simp)
    have e : (((x :: l).length : Nat) : Int) * M = l.length * M + M := by rw [List.length_cons, Int.natCast_add, Int.add_mul]; simp
    simp only [maskS]
    split <;> omega
/-- What is asked, as far as the elements are seen. -/
def fineB (gap : Int) (l : List Int) : Bool := (decide (0 ≤ gap) && decide (gap ≤ 1099511627776)) && l.all fun x => decide (0 ≤ x) && decide (x ≤ 1048576)
theorem fineB_iff {gap : Int} {l : List Int} : fineB gap l = true ↔ MargIn gap l := by
  unfold fineB MargIn
  simp
theorem fineB_step {gap : Int} {l : List Int} {j : Nat} (h : j < l.length) : fineB gap (l.take (j + 1)) = (fineB gap (l.take j) && (decide (0 ≤ l[j]) && decide (l[j] ≤ 1048576))) := by
  unfold fineB
  rw [List.take_succ_eq_append_getElem h, List.all_append]
  simp [Bool.and_assoc]
/-- The greatest sums so far, one for each number of elements. -/
def bestRow (l : List Int) (n i : Nat) : List Int := (List.range (n + 1)).map fun k => bestAt l (fun m => decide (pop n m = k)) i
theorem bestRow_zero (l : List Int) (n : Nat) : intRow (bestRow l n 0) = List.replicate (n + 1) (.int 0) := by
  unfold bestRow
  simp [bestAt, List.map_const', intRow]
theorem bestRow_len (l : List Int) (n i : Nat) : (bestRow l n i).length = n + 1 := by simp [bestRow]
theorem bestRow_at (l : List Int) (n i k : Nat) (h : k < n + 1) : (intRow (bestRow l n i))[k]? = some (.int (bestAt l (fun m => decide (pop n m = k)) i)) := by
  rw [intRow_get _ _ (by rw [bestRow_len]; exact h)]
  simp [bestRow]
theorem bestRow_step (l : List Int) (n i : Nat) : (intRow (bestRow l n i)).set (pop n i) (.int (max (bestAt l (fun m => decide (pop n m = pop n i)) i) (maskS l i))) = intRow (bestRow l n (i + 1)) := by
  rw [intRow_set]
  congr 1
  apply List.ext_getElem
  · simp [bestRow]
  · intro k h1 h2
    rw [List.getElem_set]
    simp only [bestRow, List.getElem_map, List.getElem_range]
    by_cases e : pop n i = k
    · subst e
      rw [if_pos rfl, bestAt, if_pos (by simp)]
    · rw [if_neg e]
      show _ = if _ then _ else _
      rw [if_neg (by simpa using e)]
theorem margin_lawN (gap : Int) (hgap : gap < 0) (t : Bool) (l : List Int) (hl : l.length ≤ 9) (st : Store) : Rets P F.podiumlaw56_RiskMargin [.int gap, intLst t l] st (.bool true) := by
  have h9 : ¬ (9 : Int) < l.length := by omega
  have cm := margin_neg gap (by unfold wi; simp; omega) t l (by omega)
  refine H.podiumlaw56_RiskMargin.pure hmix rfl rfl ?_
  repeat' (first 
   | (with_reducible refine Rets.xcall (sane_spec _) ?_)
   | (with_reducible refine Rets.xcall (cm _) ?_)
   | (with_reducible refine And.intro (fun h => ?_) ?_) <;> (try (exfalso; omega))
   | (simp -dsimp -implicitDefEqProofs [*]))
  clear cm
  refine xloop_for (fun y : Nat => [(36, .int y), (35, .int l.length), (34, intLst t l), (7, .bool false), (6, .int 1), (5, .int 0), (4, .bool false)]) (fun _ => st) (fun y => y ≤ l.length) (fun y => l.length - y) 0 (Nat.zero_le _) (by simp) (.refl _) ?_
  intro j hj
  by_cases hjl : j < l.length
  · have x5 := wrap_succ (n := j) (by omega)
    repeat' (simp -dsimp -implicitDefEqProofs [*])
    exact Next.intro (j + 1) hjl (by omega) (by simp) (.refl _)
  · have e : j = l.length := by omega
    subst e
    repeat' (simp -dsimp -implicitDefEqProofs [*])
theorem margin_law (gap : Int) (t : Bool) (l : List Int) (st : Store) : Rets P F.podiumlaw56_RiskMargin [.int gap, intLst t l] st (.bool true) := by
  by_cases h9 : 9 < l.length
  · have h9' : (9 : Int) < l.length := by omega
    clear h9
    refine H.podiumlaw56_RiskMargin.pure hmix rfl rfl ?_
    repeat' (first 
     | (with_reducible refine Rets.xcall (sane_spec _) ?_)
     | (simp -dsimp -implicitDefEqProofs [*]))
  by_cases hgap : gap < 0
  · exact margin_lawN gap hgap t l (by omega) st
  have hgap2 : 0 ≤ gap := by omega
  have h9' : ¬ (9 : Int) < l.length := by omega
  have key : ∃ v er : Nat, (∀ st, Rets P F.risk_Margin [.int gap, intLst t l] st (.tuple [.int v, .int er])) ∧ (MargIn gap l ∧ er = 0 ∧ Marg (sortL l) gap v ∨ fineB gap l = false ∧ er = 1 ∧ v = 0) := by
    by_cases hm : MargIn gap l
    · obtain ⟨v, hv⟩ := Marg.ex (s := sortL l) (fun x hx => (hm.2 x ((sortL_facts hm.small).1.mem_iff.1 hx)).1) gap
      exact ⟨v, 0, margin_spec hm (by omega) hv t, .inl ⟨hm, rfl, hv⟩⟩
    · have hf : fineB gap l = false := by
        cases e : fineB gap l with
        | false => rfl
        | true => exact absurd (fineB_iff.1 e) hm
      by_cases hg : 0 ≤ gap ∧ gap ≤ 1099511627776
      · exact ⟨0, 1, margin_bad hg (fun h => hm ⟨hg, h⟩) (by omega) t, .inr ⟨hf, rfl, rfl⟩⟩
      · exact ⟨0, 1, margin_neg gap (by unfold wi; simp; omega) t l (by omega), .inr ⟨hf, rfl, rfl⟩⟩
  obtain ⟨v, er, cm, kv⟩ := key
  have kv : Hid _ := ⟨kv⟩
  have kl : Hid (l.length ≤ 9) := ⟨by omega⟩
  clear h9
  have kg : Hid (decide (gap ≤ 1099511627776) = fineB gap (l.take 0)) := ⟨by simp [fineB, show 0 ≤ gap by omega]⟩
  refine H.podiumlaw56_RiskMargin.pure hmix rfl rfl ?_
  repeat' (first 
   | (with_reducible refine Rets.xcall (sane_spec _) ?_)
   | (with_reducible refine Rets.xcall (cm _) ?_)
   | (simp -dsimp -implicitDefEqProofs [*]))
  clear cm
  refine xloop_for (fun y : Nat => [(36, .int y), (35, .int l.length), (34, intLst t l), (7, .bool (fineB gap (l.take y))), (6, .int er), (5, .int v), (4, .bool false), (1, intLst t l), (0, .int gap)]) (fun _ => st) (fun y => y ≤ l.length) (fun y => l.length - y) 0 (Nat.zero_le _) (by simp [kg.out]) (.refl _) ?_
  clear kg
  intro j hj
  by_cases hjl : j < l.length
  · have x5 := wrap_succ (n := j) (by have := kl.out; omega)
    have hs := fineB_step (gap := gap) hjl
    obtain ⟨f, hf⟩ : ∃ f, f = fineB gap (l.take j) := ⟨_, rfl⟩
    rw [← hf] at hs ⊢
    have ks : Hid _ := ⟨hs⟩
    clear hs hf
    cases f with
    | false =>
      repeat' (simp -dsimp -implicitDefEqProofs [*])
      exact Next.intro (j + 1) hjl (by omega) (by simp [ks.out]) (.refl _)
    | true =>
      by_cases h0 : 0 ≤ l[j]
      · by_cases h1 : l[j] ≤ 1048576
        · have k2 : fineB gap (l.take (j + 1)) = true := by rw [ks.out]; simp [h0, h1]
          have k2 : Hid _ := ⟨k2⟩
          clear ks
          repeat' (simp -dsimp -implicitDefEqProofs [*])
          exact Next.intro (j + 1) hjl (by omega) (by simp [k2.out]) (.refl _)
        · have k2 : fineB gap (l.take (j + 1)) = false := by rw [ks.out]; simp [h1]
          have k2 : Hid _ := ⟨k2⟩
          clear ks
          repeat' (simp -dsimp -implicitDefEqProofs [*])
          exact Next.intro (j + 1) hjl (by omega) (by simp [k2.out]) (.refl _)
      · have k2 : fineB gap (l.take (j + 1)) = false := by rw [ks.out]; simp [h0]
        have k2 : Hid _ := ⟨k2⟩
        clear ks
        repeat' (simp -dsimp -implicitDefEqProofs [*])
        exact Next.intro (j + 1) hjl (by omega) (by simp [k2.out]) (.refl _)
  have e : j = l.length := by omega
  subst e
  rw [List.take_length]
  clear hj hjl
  rcases kv.out with ⟨hm, rfl, hv⟩ | ⟨hf, rfl, rfl⟩
  · have hf := fineB_iff.2 hm
    rw [hf]
    have ls : Hid ((sortL l).length = l.length) := ⟨(sortL_facts hm.small).1.length_eq⟩
    have hvl : v ≤ l.length + 1 := by have := hv.le; have := ls.out; omega
    have kw : Hid _ := ⟨hv⟩
    have km : Hid _ := ⟨hm⟩
    clear kv hf hv hm
    have hvl1 : ¬ ((l.length : Int) + 1 < v) := by omega
    have x1 := wrap_succ (n := l.length) (by have := kl.out; omega)
    obtain ⟨N, hN⟩ : ∃ N, N = 2 ^ l.length := ⟨_, rfl⟩
    have hN0 : 0 < N := by rw [hN]; exact Nat.pow_pos (by decide)
    have hN5 : N ≤ 512 := by rw [hN]; exact Nat.le_trans (Nat.pow_le_pow_right (by decide) kl.out) (by decide)
    have hsh : ∀ K, xbin .shl (.val (.int .i64 1)) (.val (.int .i64 (l.length : Int))) K = K (.val (.int .i64 (N : Int))) := fun K => by rw [xshl_one l.length K (by have := kl.out; omega), hN]
    have kN : Hid (N = 2 ^ l.length) := ⟨hN⟩
    clear hN
    repeat' (first 
     | (with_reducible refine Fresh.intro fun b hb => ?_) <;> (try simp -dsimp -implicitDefEqProofs [*] at hb)
     | ((with_reducible refine and_keep ?_ fun hk => ?_); omega)
     | (simp -dsimp -implicitDefEqProofs [*]))
    clear h9' hvl1 hsh x1 hk
    have r0 : Hid (intRow (bestRow l l.length 0) = List.replicate (l.length + 1) (.int 0)) := ⟨bestRow_zero l l.length⟩
    refine xloop_for (fun y : Nat => [(78, .int y), (77, .int N), (10, .own b 0 (l.length + 1) (l.length + 1)), (5, .int v), (4, .bool false), (1, intLst t l), (0, .int gap)]) (fun y => (b, .arr T.int (intRow (bestRow l l.length y))) :: st) (fun y => y ≤ N) (fun y => N - y) 0 (Nat.zero_le _) (by simp) (by rw [r0.out]; exact .refl _) ?_
    clear r0
    intro i hi
    by_cases hiN : i < N
    · have x5 := wrap_succ (n := i) (by omega)
      repeat' (simp -dsimp -implicitDefEqProofs [*])
      have hin : i < 2 ^ l.length := by rw [← kN.out]; exact hiN
      have i0 : Hid (maskS [] i = 0) := ⟨rfl⟩
      refine xloop_for (fun j : Nat => [(83, .int j), (82, .int l.length), (81, intLst t l), (12, .int (maskS (l.take j) i)), (11, .int i), (78, .int i), (77, .int N), (10, .own b 0 (l.length + 1) (l.length + 1)), (5, .int v), (4, .bool false), (1, intLst t l), (0, .int gap)]) (fun _ => (b, .arr T.int (intRow (bestRow l l.length i))) :: st) (fun j => j ≤ l.length) (fun j => l.length - j) 0 (Nat.zero_le _) (by simp [i0.out]) (.refl _) ?_
      intro j hj
      by_cases hjl : j < l.length
      · have x6 := wrap_succ (n := j) (by have := kl.out; omega)
        have hst := maskS_get (m := i) hjl
        have hb1 : maskS (l.take (j + 1)) i ≤ 9 * 1048576 := by
          have := maskS_le (M := 1048576) (by decide) (l := l.take (j + 1)) (fun x hx => (km.out.2 x (List.mem_of_mem_take hx)).2) i
          have h2 : (l.take (j + 1)).length ≤ 9 := Nat.le_trans (List.length_take_le _ _) (by have := kl.out; omega)
          omega
        have hb0 : 0 ≤ maskS (l.take (j + 1)) i := maskS_nonneg (fun x hx => (km.out.2 x (List.mem_of_mem_take hx)).1) i
        obtain ⟨u, hu⟩ : ∃ u, u = maskS (l.take j) i := ⟨_, rfl⟩
        rw [← hu] at hst ⊢
        have kst : Hid _ := ⟨hst⟩
        obtain ⟨p, hp⟩ : ∃ p, p = i / 2 ^ j := ⟨_, rfl⟩
        obtain ⟨r, hr⟩ : ∃ r, r = p % 2 := ⟨_, rfl⟩
        have hshr : ∀ K, xbin .shr (.val (.int .i64 (i : Int))) (.val (.int .i64 (j : Int))) K = K (.val (.int .i64 (p : Int))) := fun K => by rw [xshr_nat i j K (by have := kl.out; omega), hp]
        have hpi : p ≤ i := by rw [hp]; exact Nat.div_le_self _ _
        have hand : ∀ K, xbin .and (.val (.int .i64 (p : Int))) (.val (.int .i64 1)) K = K (.val (.int .i64 (r : Int))) := fun K => by rw [xand_one p K (by omega), hr]
        have hr2 : r < 2 := by omega
        rw [← hp, ← hr] at hst
        clear hp hr hpi
        by_cases h1 : r = 1
        · rw [if_pos h1] at hst
          subst h1
          have x7 : IntKind.i64.wrap (u + l[j]) = u + l[j] := by rw [← hst]; exact wrap_in (by omega) (by omega)
          have kst : Hid _ := ⟨hst⟩
          clear hst hb0 hb1 hu
          repeat' (simp -dsimp -implicitDefEqProofs [*])
          exact Next.intro (j + 1) hjl (by omega) (by simp [kst.out]) (.refl _)
        · rw [if_neg h1] at hst
          have h2 : r = 0 := by omega
          subst h2
          clear h1
          have kst : Hid _ := ⟨hst⟩
          clear hst hb0 hb1 hu
          repeat' (simp -dsimp -implicitDefEqProofs [*])
          exact Next.intro (j + 1) hjl (by omega) (by simp [kst.out]) (.refl _)
      · have e : j = l.length := by omega
        subst e
        rw [List.take_length]
        clear hj hjl i0
        have cc := count_spec l.length i hin (by have := kl.out; omega)
        have hpl := pop_le l.length i
        have hat := bestRow_at l l.length i (pop l.length i) (by omega)
        have hst := bestRow_step l l.length i
        have hrl : (intRow (bestRow l l.length i)).length = l.length + 1 := by rw [intRow_length, bestRow_len]
        obtain ⟨R, hR⟩ : ∃ R, R = intRow (bestRow l l.length i) := ⟨_, rfl⟩
        obtain ⟨c, hc⟩ : ∃ c, c = pop l.length i := ⟨_, rfl⟩
        rw [← hR] at hat hst hrl ⊢
        rw [← hc] at cc hpl hat hst
        obtain ⟨u, hu⟩ : ∃ u, u = bestAt l (fun m => decide (pop l.length m = c)) i := ⟨_, rfl⟩
        obtain ⟨w, hw⟩ : ∃ w, w = maskS l i := ⟨_, rfl⟩
        rw [← hu] at hat hst
        rw [← hw] at hst ⊢
        have hcl : c < R.length := by omega
        rw [show max u w = if u < w then w else u by split <;> omega] at hst
        have kst : Hid _ := ⟨hst⟩
        clear hst hin hR hc hu hw
        repeat' (first 
         | (with_reducible refine Rets.xcall (cc _) ?_)
         | ((with_reducible refine and_keep ?_ fun hk => ?_); omega)
         | (simp -dsimp -implicitDefEqProofs [*]))
        exact Next.intro (i + 1) hiN (by omega) (by simp) (by rw [kst.out]; exact .refl _)
    · have e : i = N := by omega
      subst e
      have kb : Hid (∀ k, k < l.length + 1 → (intRow (bestRow l l.length i))[k]? = some (.int (((sortL l).take k).sum))) := ⟨fun k hk => by
        rw [bestRow_at l l.length i k hk, kN.out, bestAt_best (Best.top (sortL_facts km.out.small).1 (sortL_facts km.out.small).2 (by omega)) (fun x hx => (km.out.2 x hx).1)]⟩
      have hrl : (intRow (bestRow l l.length i)).length = l.length + 1 := by rw [intRow_length, bestRow_len]
      obtain ⟨R, hR⟩ : ∃ R, R = intRow (bestRow l l.length i) := ⟨_, rfl⟩
      rw [← hR] at hrl kb ⊢
      clear hR hi hiN kN
      repeat' (simp -dsimp -implicitDefEqProofs [*])
      refine xloop_for (fun j : Nat => [(111, .int j), (110, .int (l.length + 1)), (109, .own b 0 (l.length + 1) (l.length + 1)), (5, .int v), (4, .bool false), (0, .int gap)]) (fun _ => (b, .arr T.int R) :: st) (fun j => j ≤ l.length + 1) (fun j => l.length + 1 - j) 0 (Nat.zero_le _) (by simp) (.refl _) ?_
      intro j hj
      by_cases hjl : j < l.length + 1
      · have x6 := wrap_succ (n := j) (by have := kl.out; omega)
        have gr := kb.out j hjl
        have hi := kw.out.iff j (by have := ls.out; omega)
        obtain ⟨q, hq⟩ : ∃ q, q = ((sortL l).take j).sum := ⟨_, rfl⟩
        rw [← hq] at gr hi
        have hjR : j < R.length := by omega
        have gr2 : R[j] = .int q := by
          have := List.getElem?_eq_getElem hjR
          rw [gr] at this
          exact (Option.some.inj this).symm
        have hji : (j : Int) < l.length + 1 := by omega
        clear hq kb
        by_cases h1 : v ≤ j
        · have h2 : gap ≤ q := hi.2 h1
          clear hi
          repeat' (simp -dsimp -implicitDefEqProofs [*])
          exact Next.intro (j + 1) hjl (by omega) (by simp) (.refl _)
        · have h2 : ¬ gap ≤ q := fun h => h1 (hi.1 h)
          clear hi
          repeat' (simp -dsimp -implicitDefEqProofs [*])
          exact Next.intro (j + 1) hjl (by omega) (by simp) (.refl _)
      · have e : j = l.length + 1 := by omega
        subst e
        clear kb
        repeat' (simp -dsimp -implicitDefEqProofs [*])
  · rw [hf]
    clear kv
    repeat' (simp -dsimp -implicitDefEqProofs [*])
end Go.Proofs.Ytiaebckdjklnoaa
