/- The code of one function. -/
import Derived.Test.YtgjgcflgjpigpaaCode
import Derived.Test.YtgjgcflgjpigpaaS26ZN
set_option maxRecDepth 100000
namespace Go.Proofs.Ytgjgcflgjpigpaa
open Go.Pv
/-- podium/podiumlaw26.SeasonRecordsSpec -/
noncomputable def C.podiumlaw26_SeasonRecordsSpec : MFunc := ⟨30, 1, [.tmp 2],
  (.seq (.region [
    ⟨(some 2), none, .val (.mv (.const (.bool false)))⟩] [])
  (.seq (.seq (.region [
    ⟨(some 7), none, .call (.const (.func (.func F.podiumlaw26_sane) [] [])) []⟩,
    ⟨(some 8), none, .val (.un .not (.tmp 7))⟩] [7])
  (.cond (.tmp 8)
  (.seq (.region [
    ⟨(some 2), none, .val (.mv (.const (.bool false)))⟩] [])
  .ret)
  .skip))
  (.seq (.seq (.region [
    ⟨(some 9), none, .val (.mv (.tmp 0))⟩,
    ⟨(some 10), none, .call (.const (.func (.func F.podiumref26_Few) [] [])) [(.tmp 9)]⟩,
    ⟨(some 11), none, .val (.un .not (.tmp 10))⟩] [9, 10])
  (.cond (.tmp 11)
  (.seq (.region [
    ⟨(some 2), none, .val (.mv (.const (.bool true)))⟩] [])
  .ret)
  .skip))
  (.seq (.region [
    ⟨(some 13), none, .val (.mv (.tmp 0))⟩,
    ⟨(some 14), none, .call (.const (.func (.func F.season_Records) [] [])) [(.tmp 13)]⟩,
    ⟨(some 12), none, .val (.mv (.tmp 14))⟩,
    ⟨(some 15), none, .val (.extract 0 (.tmp 12))⟩,
    ⟨(some 16), none, .val (.extract 1 (.tmp 12))⟩,
    ⟨(some 3), none, .val (.mv (.tmp 15))⟩,
    ⟨(some 4), none, .val (.mv (.tmp 16))⟩] [13, 14, 12, 15, 16])
  (.seq (.region [
    ⟨(some 18), none, .val (.mv (.tmp 0))⟩,
    ⟨(some 19), none, .call (.const (.func (.func F.podiumref26_Records) [] [])) [(.tmp 18)]⟩,
    ⟨(some 17), none, .val (.mv (.tmp 19))⟩,
    ⟨(some 20), none, .val (.extract 0 (.tmp 17))⟩,
    ⟨(some 21), none, .val (.extract 1 (.tmp 17))⟩,
    ⟨(some 5), none, .val (.mv (.tmp 20))⟩,
    ⟨(some 6), none, .val (.mv (.tmp 21))⟩] [18, 19, 17, 20, 21])
  (.seq (.region [
    ⟨(some 22), none, .val (.mv (.tmp 3))⟩,
    ⟨(some 23), none, .val (.mv (.tmp 5))⟩,
    ⟨(some 24), none, .call (.const (.func (.func F.podiumref26_Same) [] [])) [(.tmp 22), (.tmp 23)]⟩,
    ⟨(some 25), none, .val (.mv (.tmp 24))⟩,
    ⟨(some 26), (some (25, true)), .val (.mv (.tmp 4))⟩,
    ⟨(some 27), (some (25, true)), .val (.mv (.tmp 6))⟩,
    ⟨(some 28), (some (25, true)), .val (.bin .eql T.apiErrno (.tmp 26) (.tmp 27))⟩,
    ⟨(some 29), none, .val (.pick (.tmp 25) (.tmp 28) (.const (.bool false)))⟩,
    ⟨(some 2), none, .val (.mv (.tmp 29))⟩] [22, 23, 24, 25, 26, 27, 28, 29])
  .ret))))))⟩
theorem H.podiumlaw26_SeasonRecordsSpec : Has P F.podiumlaw26_SeasonRecordsSpec C.podiumlaw26_SeasonRecordsSpec := ⟨Try.f4, Try.func4, by kernel_rfl, by kernel_rfl⟩
end Go.Proofs.Ytgjgcflgjpigpaa
/- Points, totals and records match the specification. -/
namespace Go.Proofs.Ytgjgcflgjpigpaa
open Go.Pv
set_option maxRecDepth 100000
set_option maxHeartbeats 8000000
theorem few6_len {r : Rw} (h : few6 r = true) : r.Len := by
  simp only [few6, fewB, Bool.and_eq_true, Bool.or_eq_true, decide_eq_true_eq] at h
  exact ⟨by omega, by omega⟩
theorem fewS_all {l : List Rec} (h : fewS l = true) (hl : l.length ≤ 4096) : l.length ≤ 30 ∧ ∀ x ∈ l, few6 x.score = true := by
  unfold fewS at h
  split at h
  · cases h
  · rename_i h0
    have h30 : l.length ≤ 30 := by omega
    rw [List.take_of_length_le (by omega)] at h
    exact ⟨h30, List.all_eq_true.1 h⟩
theorem recL_mem {l : List Rec} {x : Rec} (h : x ∈ recL l) : x ∈ l ∧ recE l = 0 := by
  unfold recL at h
  split at h
  · rename_i h0
    exact ⟨mem_srt.1 ((recs_sublist none _).mem h), h0⟩
  · cases h
theorem recL_len (l : List Rec) : (recL l).length ≤ l.length := by
  unfold recL
  split
  · exact recs_len
  · simp
theorem recordsSpec_law (l : List Rec) (hl : l.length ≤ 9223372036854775807) (st : Store) : Rets P F.podiumlaw26_SeasonRecordsSpec [Rec.lst l] st (.bool true) := by
  have cf := fewS_spec false l
  cases hw : fewS l with
  | false =>
    rw [hw] at cf
    clear hw
    refine H.podiumlaw26_SeasonRecordsSpec.view hmix rfl rfl ?_
    repeat' (first 
     | (with_reducible refine Rets.xcall (sane_spec _) ?_)
     | (with_reducible refine Rets.xcall (cf _) ?_)
     | (simp -dsimp -implicitDefEqProofs [*]))
    exact .same ⟨rfl, rfl⟩
  | true =>
    have hF : l.length ≤ 4096 → ∀ x ∈ l, few6 x.score = true := fun h => (fewS_all hw h).2
    rw [hw] at cf
    have c1 := sRecords_spec false l (fun h x hx => few6_len (hF h x hx)) hF
    have c2 := rRecords_spec false l hF
    have l1 := recL_len l
    have s1 := sameR_spec false false (recL l) (recL l) (by omega) fun x hx => by
      obtain ⟨h1, h2⟩ := recL_mem hx
      exact few6_len (hF (rec_zero h2).1 x h1)
    rw [decide_eq_true rfl] at s1
    obtain ⟨A, hA⟩ : ∃ A, A = recL l := ⟨_, rfl⟩
    obtain ⟨E, hE⟩ : ∃ A, A = recE l := ⟨_, rfl⟩
    rw [← hA, ← hE] at c1 c2
    rw [← hA] at s1
    clear hA hE l1 hF hw
    refine H.podiumlaw26_SeasonRecordsSpec.view hmix rfl rfl ?_
    repeat' (first 
     | (with_reducible refine Rets.xcall (sane_spec _) ?_)
     | (with_reducible refine Rets.xcall (cf _) ?_)
     | (with_reducible refine Rets.xcall (c1 _) ?_)
     | (with_reducible refine Rets.xcall (c2 _) ?_)
     | (with_reducible refine Rets.xcall (s1 _) ?_)
     | (simp -dsimp -implicitDefEqProofs [*]))
    exact .same ⟨rfl, rfl⟩
end Go.Proofs.Ytgjgcflgjpigpaa
