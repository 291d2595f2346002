/- Points, totals and records match the specification. -/
import Derived.Test.YtgjgcflgjpigpaaS26ZN
import Derived.Test.YtgjgcflgjpigpaaLBn
import Derived.Test.YtgjgcflgjpigpaaCode
import Derived.Test.YtgjgcflgjpigpaaLLx
namespace Go.Proofs.Ytgjgcflgjpigpaa
open Go.Pv
set_option maxRecDepth 100000
set_option maxHeartbeats 8000000
theorem few6_len {r : Rw} (h : few6 r = true) : r.Len := by
  simp only [few6, fewB, Bool.and_eq_true, Bool.or_eq_true, decide_eq_true_eq] at h
  exact ⟨by omega, by omega⟩
theorem fewS_all {l : List Rec} (h : fewS l = true) (hl : l.length ≤ 4096) : l.length ≤ 30 ∧ ∀ x ∈ l, few6 x.score = true := by
  unfold fewS at h
  split at h
  · cases h
  · rename_i h0
    have h30 : l.length ≤ 30 := by omega
    rw [List.take_of_length_le (by omega)] at h
    exact ⟨h30, List.all_eq_true.1 h⟩
theorem recL_mem {l : List Rec} {x : Rec} (h : x ∈ recL l) : x ∈ l ∧ recE l = 0 := by
  unfold recL at h
  split at h
  · rename_i h0
    exact ⟨mem_srt.1 ((recs_sublist none _).mem h), h0⟩
  · cases h
theorem recL_len (l : List Rec) : (recL l).length ≤ l.length := by
  unfold recL
  split
  · exact recs_len
  · simp
end Go.Proofs.Ytgjgcflgjpigpaa
/- Rightly listed scores: plain facts. -/
namespace Go.Proofs.Ytgjgcflgjpigpaa
open Go.Pv
set_option maxRecDepth 100000
set_option maxHeartbeats 8000000
abbrev Less (a b : Rec) : Prop := a.no < b.no
theorem right_last {x : Rec} {a b : Int} (h : rightR x a = true) (hb : b < x.no) : rightR x b = true := by
  simp only [rightR, btw, Bool.and_eq_true, decide_eq_true_eq] at h ⊢
  exact ⟨⟨by omega, h.1.2⟩, h.2⟩
theorem ListedR.facts {l : List Rec} (h : ListedR l) : l.Pairwise Less ∧ ∀ x ∈ l, rightR x (-1) = true := by
  have h1 : ∀ i (hi : i < l.length), lastNo l i < l[i].no := fun i hi => by have := (right_ok (h i hi)).1; omega
  have h2 : ∀ j i (hi : i < l.length) (hj : j < i), (l[j]'(by omega)).no < l[i].no := by
    intro j i
    induction i with
    | zero => intro _ hj; omega
    | succ i ih =>
      intro hi hj
      have h3 := h1 (i + 1) hi
      rw [lastNo_succ (show i < l.length by omega)] at h3
      by_cases e : j = i
      · subst e; exact h3
      · have := ih (by omega) (by omega); omega
  refine ⟨List.pairwise_iff_getElem.2 fun i j hi hj hij => h2 i j hj hij, fun x hx => ?_⟩
  obtain ⟨i, hi, rfl⟩ := List.mem_iff_getElem.1 hx
  refine right_last (h i hi) ?_
  have := lastNo_ge (i := i) (by omega) fun j hj hji => h j hj
  have := h1 i hi
  omega
theorem ListedR.of {l : List Rec} (h1 : l.Pairwise Less) (h2 : ∀ x ∈ l, rightR x (-1) = true) : ListedR l := fun i hi => by
  refine right_last (h2 _ (List.getElem_mem hi)) ?_
  unfold lastNo
  by_cases e : i = 0
  · rw [if_pos e]
    have := (right_ok (h2 _ (List.getElem_mem hi))).1
    omega
  · rw [if_neg e]
    have a : i - 1 < l.length := by omega
    simp only [List.getD_eq_getElem?_getD, List.getElem?_eq_getElem a, Option.getD_some]
    exact List.pairwise_iff_getElem.1 h1 _ _ a hi (by omega)
abbrev upTo (time : Int) (l : List Rec) : List Rec := l.filter fun a => decide (a.at_ ≤ time)
theorem ListedR.upTo {l : List Rec} (h : ListedR l) (time : Int) : ListedR (upTo time l) :=
  .of (h.facts.1.sublist List.filter_sublist) fun x hx => h.facts.2 x ((List.mem_filter.1 hx).1)
theorem recE_listed {l : List Rec} (h : ListedR l) (hl : l.length ≤ 4096) : recE l = 0 ∧ recL l = recs valR none (srt SortRec.key l) := (rec_k l).k3 hl h
theorem recL_upTo {l : List Rec} (h : ListedR l) (hl : l.length ≤ 4096) (time : Int) : upTo time (recL l) = recL (upTo time l) := by
  rw [(recE_listed h hl).2, (recE_listed (h.upTo time) (Nat.le_trans (List.length_filter_le _ _) hl)).2]
  exact recs_until_srt
theorem recL_pair {l : List Rec} (h : ListedR l) (hl : l.length ≤ 4096) : (recL l).Pairwise fun a b => valR a < valR b ∧ Behind SortRec.key Less a b := by
  rw [(recE_listed h hl).2]
  exact (recs_facts h.facts.1).1
theorem recL_cover {l : List Rec} (h : ListedR l) (hl : l.length ≤ 4096) {y : Rec} (hy : y ∈ l) : ∃ r ∈ recL l, valR y ≤ valR r ∧ (r.at_ < y.at_ ∨ r.at_ = y.at_ ∧ r.no ≤ y.no) := by
  rw [(recE_listed h hl).2]
  obtain ⟨r, h1, h2, h3⟩ := recs_cover (sc := valR) (key := SortRec.key) h.facts.1 hy
  refine ⟨r, h1, h2, ?_⟩
  rcases h3 with rfl | h3 | h3
  · exact .inr ⟨rfl, Int.le_refl _⟩
  · exact .inl h3
  · exact .inr ⟨h3.1, by have := h3.2; omega⟩
theorem recL_nil {l : List Rec} (h : ListedR l) (hl : l.length ≤ 4096) : recL l = [] ↔ l = [] := by
  rw [(recE_listed h hl).2]
  exact recs_nil
end Go.Proofs.Ytgjgcflgjpigpaa
/- The code of one function. -/
set_option maxRecDepth 100000
namespace Go.Proofs.Ytgjgcflgjpigpaa
open Go.Pv
/-- podium/podiumlaw26.SeasonRising -/
noncomputable def C.podiumlaw26_SeasonRising : MFunc := ⟨239, 2, [.tmp 4],
  (.seq (.region [
    ⟨(some 4), none, .val (.mv (.const (.bool false)))⟩] [])
  (.seq (.seq (.region [
    ⟨(some 29), none, .call (.const (.func (.func F.podiumlaw26_sane) [] [])) []⟩,
    ⟨(some 30), none, .val (.un .not (.tmp 29))⟩] [29])
  (.cond (.tmp 30)
  (.seq (.region [
    ⟨(some 4), none, .val (.mv (.const (.bool false)))⟩] [])
  .ret)
  .skip))
  (.seq (.seq (.region [
    ⟨(some 31), none, .val (.mv (.tmp 0))⟩,
    ⟨(some 32), none, .call (.const (.func (.func F.podiumref26_Few) [] [])) [(.tmp 31)]⟩,
    ⟨(some 33), none, .val (.un .not (.tmp 32))⟩,
    ⟨(some 34), none, .val (.mv (.tmp 33))⟩,
    ⟨(some 35), (some (34, false)), .val (.mv (.tmp 0))⟩,
    ⟨(some 36), (some (34, false)), .val (.len (.tmp 35))⟩,
    ⟨(some 37), (some (34, false)), .val (.bin .gtr T.int (.tmp 36) (.const (.int 30)))⟩,
    ⟨(some 38), none, .val (.pick (.tmp 34) (.const (.bool true)) (.tmp 37))⟩,
    ⟨(some 39), none, .val (.mv (.tmp 38))⟩,
    ⟨(some 40), (some (39, false)), .val (.mv (.tmp 0))⟩,
    ⟨(some 41), (some (39, false)), .call (.const (.func (.func F.podiumref26_Listed) [] [])) [(.tmp 40)]⟩,
    ⟨(some 42), (some (39, false)), .val (.un .not (.tmp 41))⟩,
    ⟨(some 43), none, .val (.pick (.tmp 39) (.const (.bool true)) (.tmp 42))⟩] [31, 32, 33, 34, 35, 36, 37, 38, 39, 40, 41, 42])
  (.cond (.tmp 43)
  (.seq (.region [
    ⟨(some 4), none, .val (.mv (.const (.bool true)))⟩] [])
  .ret)
  .skip))
  (.seq (.region [
    ⟨(some 45), none, .val (.mv (.tmp 0))⟩,
    ⟨(some 46), none, .call (.const (.func (.func F.season_Records) [] [])) [(.tmp 45)]⟩,
    ⟨(some 44), none, .val (.mv (.tmp 46))⟩,
    ⟨(some 47), none, .val (.extract 0 (.tmp 44))⟩,
    ⟨(some 48), none, .val (.extract 1 (.tmp 44))⟩,
    ⟨(some 5), none, .val (.mv (.tmp 47))⟩,
    ⟨(some 6), none, .val (.mv (.tmp 48))⟩] [45, 46, 44, 47, 48])
  (.seq (.seq (.region [
    ⟨(some 49), none, .val (.mv (.tmp 6))⟩,
    ⟨(some 50), none, .val (.bin .neq T.apiErrno (.tmp 49) (.const (.int 0)))⟩,
    ⟨(some 51), none, .val (.mv (.tmp 50))⟩,
    ⟨(some 52), (some (51, false)), .val (.mv (.tmp 5))⟩,
    ⟨(some 53), (some (51, false)), .val (.len (.tmp 52))⟩,
    ⟨(some 54), (some (51, false)), .val (.mv (.tmp 0))⟩,
    ⟨(some 55), (some (51, false)), .val (.len (.tmp 54))⟩,
    ⟨(some 56), (some (51, false)), .val (.bin .gtr T.int (.tmp 53) (.tmp 55))⟩,
    ⟨(some 57), none, .val (.pick (.tmp 51) (.const (.bool true)) (.tmp 56))⟩,
    ⟨(some 58), none, .val (.mv (.tmp 57))⟩,
    ⟨(some 59), (some (58, false)), .val (.mv (.tmp 5))⟩,
    ⟨(some 60), (some (58, false)), .val (.len (.tmp 59))⟩,
    ⟨(some 61), (some (58, false)), .val (.bin .eql T.int (.tmp 60) (.const (.int 0)))⟩,
    ⟨(some 62), (some (58, false)), .val (.mv (.tmp 0))⟩,
    ⟨(some 63), (some (58, false)), .val (.len (.tmp 62))⟩,
    ⟨(some 64), (some (58, false)), .val (.bin .eql T.int (.tmp 63) (.const (.int 0)))⟩,
    ⟨(some 65), (some (58, false)), .val (.eqBool true (.tmp 61) (.tmp 64))⟩,
    ⟨(some 66), none, .val (.pick (.tmp 58) (.const (.bool true)) (.tmp 65))⟩] [49, 50, 51, 52, 53, 54, 55, 56, 57, 58, 59, 60, 61, 62, 63, 64, 65])
  (.cond (.tmp 66)
  (.seq (.region [
    ⟨(some 4), none, .val (.mv (.const (.bool false)))⟩] [])
  .ret)
  .skip))
  (.seq (.seq (.region [
    ⟨(some 67), none, .val (.mv (.tmp 5))⟩,
    ⟨(some 68), none, .val (.len (.tmp 67))⟩,
    ⟨(some 69), none, .val (.mv (.const (.int 0)))⟩] [])
  (.block 0 (.loop (.seq (.region [
    ⟨(some 70), none, .val (.bin .lss T.int (.tmp 69) (.tmp 68))⟩] [])
  (.seq (.cond (.tmp 70)
  .skip
  (.exit 0))
  (.seq (.block 1 (.seq (.region [
    ⟨(some 71), none, .val (.mv (.tmp 69))⟩,
    ⟨(some 72), none, .val (.indexAddr 7 (.tmp 67) (.tmp 69))⟩,
    ⟨(some 73), none, .val (.load 7 true (.tmp 72))⟩,
    ⟨(some 8), none, .alloc T.apiRecord [(.int 0), (.int 0), (.int 0), (.bool false), .nil, (.bool false), .nil]⟩,
    ⟨(some 7), none, .val (.mv (.tmp 71))⟩,
    ⟨none, none, .store 7 (.tmp 8) (.tmp 73)⟩] [71, 72, 73])
  (.seq (.region [
    ⟨(some 9), none, .val (.mv (.const (.bool false)))⟩] [])
  (.seq (.seq (.region [
    ⟨(some 74), none, .val (.mv (.tmp 0))⟩,
    ⟨(some 75), none, .val (.len (.tmp 74))⟩,
    ⟨(some 76), none, .val (.mv (.const (.int 0)))⟩] [])
  (.block 2 (.loop (.seq (.region [
    ⟨(some 77), none, .val (.bin .lss T.int (.tmp 76) (.tmp 75))⟩] [])
  (.seq (.cond (.tmp 77)
  .skip
  (.exit 2))
  (.seq (.block 3 (.seq (.region [
    ⟨(some 78), none, .val (.indexAddr 7 (.tmp 74) (.tmp 76))⟩,
    ⟨(some 79), none, .val (.load 7 true (.tmp 78))⟩,
    ⟨(some 11), none, .alloc T.apiRecord [(.int 0), (.int 0), (.int 0), (.bool false), .nil, (.bool false), .nil]⟩,
    ⟨none, none, .store 7 (.tmp 11) (.tmp 79)⟩] [78, 79])
  (.region [
    ⟨(some 80), none, .val (.mv (.tmp 9))⟩,
    ⟨(some 81), none, .val (.mv (.tmp 80))⟩,
    ⟨(some 82), (some (81, false)), .val (.load 7 true (.tmp 11))⟩,
    ⟨(some 83), (some (81, false)), .val (.buildSlice T.apiRecord 1 [(.int 0), (.int 0), (.int 0), (.bool false), .nil, (.bool false), .nil] [(0, 7, (.tmp 82))])⟩,
    ⟨(some 84), (some (81, false)), .val (.load 7 true (.tmp 8))⟩,
    ⟨(some 85), (some (81, false)), .val (.buildSlice T.apiRecord 1 [(.int 0), (.int 0), (.int 0), (.bool false), .nil, (.bool false), .nil] [(0, 7, (.tmp 84))])⟩,
    ⟨(some 86), (some (81, false)), .call (.const (.func (.func F.podiumref26_Same) [] [])) [(.tmp 83), (.tmp 85)]⟩,
    ⟨(some 87), none, .val (.pick (.tmp 81) (.const (.bool true)) (.tmp 86))⟩,
    ⟨(some 9), none, .val (.mv (.tmp 87))⟩] [80, 81, 82, 83, 84, 85, 86, 87])))
  (.region [
    ⟨(some 88), none, .val (.bin .add T.int (.tmp 76) (.const (.int 1)))⟩,
    ⟨(some 76), none, .val (.mv (.tmp 88))⟩] [88])))))))
  (.seq (.seq (.region [
    ⟨(some 89), none, .val (.mv (.tmp 9))⟩,
    ⟨(some 90), none, .val (.un .not (.tmp 89))⟩] [89])
  (.cond (.tmp 90)
  (.seq (.region [
    ⟨(some 4), none, .val (.mv (.const (.bool false)))⟩] [])
  .ret)
  .skip))
  (.seq (.region [
    ⟨(some 91), none, .val (.mv (.tmp 7))⟩,
    ⟨(some 92), none, .val (.bin .gtr T.int (.tmp 91) (.const (.int 0)))⟩] [91])
  (.cond (.tmp 92)
  (.seq (.draw true [
    (.early, ⟨(some 94), none, .val (.mv (.tmp 5))⟩),
    (.early, ⟨(some 95), none, .val (.mv (.tmp 7))⟩),
    (.early, ⟨(some 96), none, .val (.bin .sub T.int (.tmp 95) (.const (.int 1)))⟩),
    (.early, ⟨(some 97), none, .val (.indexAddr 7 (.tmp 94) (.tmp 96))⟩),
    (.early, ⟨(some 98), none, .val (.fieldAddr 3 (.tmp 97))⟩),
    (.early, ⟨(some 99), none, .val (.load 4 true (.tmp 98))⟩),
    (.early, ⟨(some 100), none, .val (.fieldAddr 3 (.tmp 8))⟩),
    (.early, ⟨(some 101), none, .val (.load 4 true (.tmp 100))⟩),
    (.hard, ⟨(some 102), none, .call (.const (.func (.func F.ratio_Cmp) [] [])) [(.tmp 99), (.tmp 101)]⟩),
    (.late, ⟨(some 93), none, .val (.mv (.tmp 102))⟩),
    (.late, ⟨(some 103), none, .val (.extract 0 (.tmp 93))⟩),
    (.late, ⟨(some 104), none, .val (.extract 1 (.tmp 93))⟩),
    (.late, ⟨(some 12), none, .val (.mv (.tmp 103))⟩),
    (.late, ⟨(some 13), none, .val (.mv (.tmp 104))⟩)] [94, 95, 96, 97, 98, 99, 100, 101, 102, 93, 103, 104])
  (.seq (.draw false (
    (.early, ⟨(some 105), none, .val (.mv (.tmp 13))⟩) ::
    (.early, ⟨(some 106), none, .val (.bin .neq T.apiErrno (.tmp 105) (.const (.int 0)))⟩) ::
    (.early, ⟨(some 107), none, .val (.mv (.tmp 106))⟩) ::
    (.early, ⟨(some 108), (some (107, false)), .val (.mv (.tmp 12))⟩) ::
    (.early, ⟨(some 109), (some (107, false)), .val (.bin .geq T.int (.tmp 108) (.const (.int 0)))⟩) ::
    (.early, ⟨(some 110), none, .val (.pick (.tmp 107) (.const (.bool true)) (.tmp 109))⟩) ::
    (.early, ⟨(some 111), none, .val (.mv (.tmp 110))⟩) ::
    (.early, ⟨(some 112), (some (111, false)), .val (.mv (.tmp 5))⟩) ::
    (.early, ⟨(some 113), (some (111, false)), .val (.mv (.tmp 7))⟩) ::
    (.early, ⟨(some 114), (some (111, false)), .val (.bin .sub T.int (.tmp 113) (.const (.int 1)))⟩) ::
    (.early, ⟨(some 115), (some (111, false)), .val (.indexAddr 7 (.tmp 112) (.tmp 114))⟩) ::
    (.early, ⟨(some 116), (some (111, false)), .val (.fieldAddr 2 (.tmp 115))⟩) ::
    (.early, ⟨(some 117), (some (111, false)), .val (.load 1 false (.tmp 116))⟩) ::
    (.early, ⟨(some 118), (some (111, false)), .val (.fieldAddr 2 (.tmp 8))⟩) ::
    (.early, ⟨(some 119), (some (111, false)), .val (.load 1 false (.tmp 118))⟩) ::
    (.early, ⟨(some 120), (some (111, false)), .val (.bin .gtr T.int (.tmp 117) (.tmp 119))⟩) ::
    (.early, ⟨(some 121), none, .val (.pick (.tmp 111) (.const (.bool true)) (.tmp 120))⟩) ::
    (.early, ⟨(some 122), none, .val (.mv (.tmp 121))⟩) ::
    (.early, ⟨(some 123), (some (122, false)), .val (.mv (.tmp 5))⟩) ::
    (.early, ⟨(some 124), (some (122, false)), .val (.mv (.tmp 7))⟩) ::
    (.early, ⟨(some 125), (some (122, false)), .val (.bin .sub T.int (.tmp 124) (.const (.int 1)))⟩) ::
    (.early, ⟨(some 126), (some (122, false)), .val (.indexAddr 7 (.tmp 123) (.tmp 125))⟩) ::
    (.early, ⟨(some 127), (some (122, false)), .val (.fieldAddr 2 (.tmp 126))⟩) ::
    (.early, ⟨(some 128), (some (122, false)), .val (.load 1 false (.tmp 127))⟩) ::
    (.early, ⟨(some 129), (some (122, false)), .val (.fieldAddr 2 (.tmp 8))⟩) ::
    (.early, ⟨(some 130), (some (122, false)), .val (.load 1 false (.tmp 129))⟩) ::
    (.early, ⟨(some 131), (some (122, false)), .val (.bin .eql T.int (.tmp 128) (.tmp 130))⟩) ::
    (.early, ⟨(some 132), (some (122, false)), .val (.mv (.tmp 131))⟩) ::
    (.early, ⟨(some 133), (some (132, true)), .val (.mv (.tmp 5))⟩) ::
    (.early, ⟨(some 134), (some (132, true)), .val (.mv (.tmp 7))⟩) ::
    (.early, ⟨(some 135), (some (132, true)), .val (.bin .sub T.int (.tmp 134) (.const (.int 1)))⟩) ::
    (.early, ⟨(some 136), (some (132, true)), .val (.indexAddr 7 (.tmp 133) (.tmp 135))⟩) ::
    (.early, ⟨(some 137), (some (132, true)), .val (.fieldAddr 0 (.tmp 136))⟩) ::
    (.early, ⟨(some 138), (some (132, true)), .val (.load 1 false (.tmp 137))⟩) ::
    (.early, ⟨(some 139), (some (132, true)), .val (.fieldAddr 0 (.tmp 8))⟩) ::
    (.early, ⟨(some 140), (some (132, true)), .val (.load 1 false (.tmp 139))⟩) ::
    (.early, ⟨(some 141), (some (132, true)), .val (.bin .gtr T.int (.tmp 138) (.tmp 140))⟩) ::
    (.early, ⟨(some 142), (some (122, false)), .val (.pick (.tmp 132) (.tmp 141) (.const (.bool false)))⟩) ::
    (.early, ⟨(some 143), none, .val (.pick (.tmp 122) (.const (.bool true)) (.tmp 142))⟩) :: []) (105 :: 106 :: 107 :: 108 :: 109 :: 110 :: 111 :: 112 :: 113 :: 114 :: 115 :: 116 :: 117 :: 118 :: 119 :: 120 :: 121 :: 122 :: 123 :: 124 :: 125 :: 126 :: 127 :: 128 :: 129 :: 130 :: 131 :: 132 :: 133 :: 134 :: 135 :: 136 :: 137 :: 138 :: 139 :: 140 :: 141 :: 142 :: []))
  (.cond (.tmp 143)
  (.seq (.region [
    ⟨(some 4), none, .val (.mv (.const (.bool false)))⟩] [])
  .ret)
  .skip)))
  .skip)))))))
  (.region [
    ⟨(some 144), none, .val (.bin .add T.int (.tmp 69) (.const (.int 1)))⟩,
    ⟨(some 69), none, .val (.mv (.tmp 144))⟩] [144])))))))
  (.seq (.seq (.region [
    ⟨(some 145), none, .val (.mv (.tmp 0))⟩,
    ⟨(some 146), none, .val (.len (.tmp 145))⟩,
    ⟨(some 147), none, .val (.mv (.const (.int 0)))⟩] [])
  (.block 4 (.loop (.seq (.region [
    ⟨(some 148), none, .val (.bin .lss T.int (.tmp 147) (.tmp 146))⟩] [])
  (.seq (.cond (.tmp 148)
  .skip
  (.exit 4))
  (.seq (.block 5 (.seq (.region [
    ⟨(some 149), none, .val (.indexAddr 7 (.tmp 145) (.tmp 147))⟩,
    ⟨(some 150), none, .val (.load 7 true (.tmp 149))⟩,
    ⟨(some 15), none, .alloc T.apiRecord [(.int 0), (.int 0), (.int 0), (.bool false), .nil, (.bool false), .nil]⟩,
    ⟨none, none, .store 7 (.tmp 15) (.tmp 150)⟩] [149, 150])
  (.seq (.region [
    ⟨(some 16), none, .val (.mv (.const (.bool false)))⟩] [])
  (.seq (.seq (.region [
    ⟨(some 151), none, .val (.mv (.tmp 5))⟩,
    ⟨(some 152), none, .val (.len (.tmp 151))⟩,
    ⟨(some 153), none, .val (.mv (.const (.int 0)))⟩] [])
  (.block 6 (.loop (.seq (.region [
    ⟨(some 154), none, .val (.bin .lss T.int (.tmp 153) (.tmp 152))⟩] [])
  (.seq (.cond (.tmp 154)
  .skip
  (.exit 6))
  (.seq (.block 7 (.seq (.region [
    ⟨(some 155), none, .val (.indexAddr 7 (.tmp 151) (.tmp 153))⟩,
    ⟨(some 156), none, .val (.load 7 true (.tmp 155))⟩,
    ⟨(some 18), none, .alloc T.apiRecord [(.int 0), (.int 0), (.int 0), (.bool false), .nil, (.bool false), .nil]⟩,
    ⟨none, none, .store 7 (.tmp 18) (.tmp 156)⟩] [155, 156])
  (.seq (.region [
    ⟨(some 158), none, .val (.fieldAddr 3 (.tmp 15))⟩,
    ⟨(some 159), none, .val (.load 4 true (.tmp 158))⟩,
    ⟨(some 160), none, .val (.fieldAddr 3 (.tmp 18))⟩,
    ⟨(some 161), none, .val (.load 4 true (.tmp 160))⟩,
    ⟨(some 162), none, .call (.const (.func (.func F.ratio_Cmp) [] [])) [(.tmp 159), (.tmp 161)]⟩,
    ⟨(some 157), none, .val (.mv (.tmp 162))⟩,
    ⟨(some 163), none, .val (.extract 0 (.tmp 157))⟩,
    ⟨(some 164), none, .val (.extract 1 (.tmp 157))⟩,
    ⟨(some 19), none, .val (.mv (.tmp 163))⟩,
    ⟨(some 20), none, .val (.mv (.tmp 164))⟩] [158, 159, 160, 161, 162, 157, 163, 164])
  (.seq (.seq (.region [
    ⟨(some 165), none, .val (.mv (.tmp 20))⟩,
    ⟨(some 166), none, .val (.bin .neq T.apiErrno (.tmp 165) (.const (.int 0)))⟩] [165])
  (.cond (.tmp 166)
  (.seq (.region [
    ⟨(some 4), none, .val (.mv (.const (.bool false)))⟩] [])
  .ret)
  .skip))
  (.region [
    ⟨(some 167), none, .val (.mv (.tmp 16))⟩,
    ⟨(some 168), none, .val (.mv (.tmp 167))⟩,
    ⟨(some 169), (some (168, false)), .val (.mv (.tmp 19))⟩,
    ⟨(some 170), (some (168, false)), .val (.bin .leq T.int (.tmp 169) (.const (.int 0)))⟩,
    ⟨(some 171), (some (168, false)), .val (.mv (.tmp 170))⟩,
    ⟨(some 172), (some (171, true)), .val (.fieldAddr 2 (.tmp 18))⟩,
    ⟨(some 173), (some (171, true)), .val (.load 1 false (.tmp 172))⟩,
    ⟨(some 174), (some (171, true)), .val (.fieldAddr 2 (.tmp 15))⟩,
    ⟨(some 175), (some (171, true)), .val (.load 1 false (.tmp 174))⟩,
    ⟨(some 176), (some (171, true)), .val (.bin .lss T.int (.tmp 173) (.tmp 175))⟩,
    ⟨(some 177), (some (171, true)), .val (.mv (.tmp 176))⟩,
    ⟨(some 178), (some (177, false)), .val (.fieldAddr 2 (.tmp 18))⟩,
    ⟨(some 179), (some (177, false)), .val (.load 1 false (.tmp 178))⟩,
    ⟨(some 180), (some (177, false)), .val (.fieldAddr 2 (.tmp 15))⟩,
    ⟨(some 181), (some (177, false)), .val (.load 1 false (.tmp 180))⟩,
    ⟨(some 182), (some (177, false)), .val (.bin .eql T.int (.tmp 179) (.tmp 181))⟩,
    ⟨(some 183), (some (177, false)), .val (.mv (.tmp 182))⟩,
    ⟨(some 184), (some (183, true)), .val (.fieldAddr 0 (.tmp 18))⟩,
    ⟨(some 185), (some (183, true)), .val (.load 1 false (.tmp 184))⟩,
    ⟨(some 186), (some (183, true)), .val (.fieldAddr 0 (.tmp 15))⟩,
    ⟨(some 187), (some (183, true)), .val (.load 1 false (.tmp 186))⟩,
    ⟨(some 188), (some (183, true)), .val (.bin .leq T.int (.tmp 185) (.tmp 187))⟩,
    ⟨(some 189), (some (177, false)), .val (.pick (.tmp 183) (.tmp 188) (.const (.bool false)))⟩,
    ⟨(some 190), (some (171, true)), .val (.pick (.tmp 177) (.const (.bool true)) (.tmp 189))⟩,
    ⟨(some 191), (some (168, false)), .val (.pick (.tmp 171) (.tmp 190) (.const (.bool false)))⟩,
    ⟨(some 192), none, .val (.pick (.tmp 168) (.const (.bool true)) (.tmp 191))⟩,
    ⟨(some 16), none, .val (.mv (.tmp 192))⟩] [167, 168, 169, 170, 171, 172, 173, 174, 175, 176, 177, 178, 179, 180, 181, 182, 183, 184, 185, 186, 187, 188, 189, 190, 191, 192])))))
  (.region [
    ⟨(some 193), none, .val (.bin .add T.int (.tmp 153) (.const (.int 1)))⟩,
    ⟨(some 153), none, .val (.mv (.tmp 193))⟩] [193])))))))
  (.seq (.region [
    ⟨(some 194), none, .val (.mv (.tmp 16))⟩,
    ⟨(some 195), none, .val (.un .not (.tmp 194))⟩] [194])
  (.cond (.tmp 195)
  (.seq (.region [
    ⟨(some 4), none, .val (.mv (.const (.bool false)))⟩] [])
  .ret)
  .skip))))))
  (.region [
    ⟨(some 196), none, .val (.bin .add T.int (.tmp 147) (.const (.int 1)))⟩,
    ⟨(some 147), none, .val (.mv (.tmp 196))⟩] [196])))))))
  (.seq (.region [
    ⟨(some 21), none, .val (.mv (.const .nil))⟩,
    ⟨(some 22), none, .val (.mv (.const .nil))⟩] [])
  (.seq (.seq (.region [
    ⟨(some 197), none, .val (.mv (.tmp 0))⟩,
    ⟨(some 198), none, .val (.len (.tmp 197))⟩,
    ⟨(some 199), none, .val (.mv (.const (.int 0)))⟩] [])
  (.block 8 (.loop (.seq (.region [
    ⟨(some 200), none, .val (.bin .lss T.int (.tmp 199) (.tmp 198))⟩] [])
  (.seq (.cond (.tmp 200)
  .skip
  (.exit 8))
  (.seq (.block 9 (.seq (.region [
    ⟨(some 201), none, .val (.indexAddr 7 (.tmp 197) (.tmp 199))⟩,
    ⟨(some 202), none, .val (.load 7 true (.tmp 201))⟩,
    ⟨(some 24), none, .alloc T.apiRecord [(.int 0), (.int 0), (.int 0), (.bool false), .nil, (.bool false), .nil]⟩,
    ⟨none, none, .store 7 (.tmp 24) (.tmp 202)⟩] [201, 202])
  (.seq (.region [
    ⟨(some 203), none, .val (.fieldAddr 2 (.tmp 24))⟩,
    ⟨(some 204), none, .val (.load 1 false (.tmp 203))⟩,
    ⟨(some 205), none, .val (.mv (.tmp 1))⟩,
    ⟨(some 206), none, .val (.bin .leq T.int (.tmp 204) (.tmp 205))⟩] [203, 204, 205])
  (.cond (.tmp 206)
  (.region [
    ⟨(some 207), none, .val (.mv (.tmp 21))⟩,
    ⟨(some 208), none, .val (.load 7 true (.tmp 24))⟩,
    ⟨(some 209), none, .val (.buildSlice T.apiRecord 1 [(.int 0), (.int 0), (.int 0), (.bool false), .nil, (.bool false), .nil] [(0, 7, (.tmp 208))])⟩,
    ⟨(some 210), none, .append T.apiRecord 88 7 (.tmp 207) (.tmp 209)⟩,
    ⟨(some 21), none, .val (.mv (.tmp 210))⟩] [207, 208, 209, 210])
  .skip))))
  (.region [
    ⟨(some 211), none, .val (.bin .add T.int (.tmp 199) (.const (.int 1)))⟩,
    ⟨(some 199), none, .val (.mv (.tmp 211))⟩] [211])))))))
  (.seq (.seq (.region [
    ⟨(some 212), none, .val (.mv (.tmp 5))⟩,
    ⟨(some 213), none, .val (.len (.tmp 212))⟩,
    ⟨(some 214), none, .val (.mv (.const (.int 0)))⟩] [])
  (.block 10 (.loop (.seq (.region [
    ⟨(some 215), none, .val (.bin .lss T.int (.tmp 214) (.tmp 213))⟩] [])
  (.seq (.cond (.tmp 215)
  .skip
  (.exit 10))
  (.seq (.block 11 (.seq (.region [
    ⟨(some 216), none, .val (.indexAddr 7 (.tmp 212) (.tmp 214))⟩,
    ⟨(some 217), none, .val (.load 7 true (.tmp 216))⟩,
    ⟨(some 26), none, .alloc T.apiRecord [(.int 0), (.int 0), (.int 0), (.bool false), .nil, (.bool false), .nil]⟩,
    ⟨none, none, .store 7 (.tmp 26) (.tmp 217)⟩] [216, 217])
  (.seq (.region [
    ⟨(some 218), none, .val (.fieldAddr 2 (.tmp 26))⟩,
    ⟨(some 219), none, .val (.load 1 false (.tmp 218))⟩,
    ⟨(some 220), none, .val (.mv (.tmp 1))⟩,
    ⟨(some 221), none, .val (.bin .leq T.int (.tmp 219) (.tmp 220))⟩] [218, 219, 220])
  (.cond (.tmp 221)
  (.region [
    ⟨(some 222), none, .val (.mv (.tmp 22))⟩,
    ⟨(some 223), none, .val (.load 7 true (.tmp 26))⟩,
    ⟨(some 224), none, .val (.buildSlice T.apiRecord 1 [(.int 0), (.int 0), (.int 0), (.bool false), .nil, (.bool false), .nil] [(0, 7, (.tmp 223))])⟩,
    ⟨(some 225), none, .append T.apiRecord 88 7 (.tmp 222) (.tmp 224)⟩,
    ⟨(some 22), none, .val (.mv (.tmp 225))⟩] [222, 223, 224, 225])
  .skip))))
  (.region [
    ⟨(some 226), none, .val (.bin .add T.int (.tmp 214) (.const (.int 1)))⟩,
    ⟨(some 214), none, .val (.mv (.tmp 226))⟩] [226])))))))
  (.seq (.region [
    ⟨(some 228), none, .val (.mv (.tmp 21))⟩,
    ⟨(some 229), none, .call (.const (.func (.func F.season_Records) [] [])) [(.tmp 228)]⟩,
    ⟨(some 227), none, .val (.mv (.tmp 229))⟩,
    ⟨(some 230), none, .val (.extract 0 (.tmp 227))⟩,
    ⟨(some 231), none, .val (.extract 1 (.tmp 227))⟩,
    ⟨(some 27), none, .val (.mv (.tmp 230))⟩,
    ⟨(some 28), none, .val (.mv (.tmp 231))⟩] [228, 229, 227, 230, 231])
  (.seq (.region [
    ⟨(some 232), none, .val (.mv (.tmp 28))⟩,
    ⟨(some 233), none, .val (.bin .eql T.apiErrno (.tmp 232) (.const (.int 0)))⟩,
    ⟨(some 234), none, .val (.mv (.tmp 233))⟩,
    ⟨(some 235), (some (234, true)), .val (.mv (.tmp 27))⟩,
    ⟨(some 236), (some (234, true)), .val (.mv (.tmp 22))⟩,
    ⟨(some 237), (some (234, true)), .call (.const (.func (.func F.podiumref26_Same) [] [])) [(.tmp 235), (.tmp 236)]⟩,
    ⟨(some 238), none, .val (.pick (.tmp 234) (.tmp 237) (.const (.bool false)))⟩,
    ⟨(some 4), none, .val (.mv (.tmp 238))⟩] [232, 233, 234, 235, 236, 237, 238])
  .ret))))))))))))⟩
theorem H.podiumlaw26_SeasonRising : Has P F.podiumlaw26_SeasonRising C.podiumlaw26_SeasonRising := ⟨Try.f8, Try.func8, by kernel_rfl, by kernel_rfl⟩
end Go.Proofs.Ytgjgcflgjpigpaa
/- Records rise. -/
namespace Go.Proofs.Ytgjgcflgjpigpaa
open Go.Pv
set_option maxRecDepth 100000
set_option maxHeartbeats 8000000
def beatB (y r : Rec) : Bool := decide (valR y ≤ valR r) && (decide (r.at_ < y.at_) || decide (r.at_ = y.at_) && decide (r.no ≤ y.no))
theorem any_step {p : Rec → Bool} {l : List Rec} {j : Nat} (h : j < l.length) : (l.take (j + 1)).any p = ((l.take j).any p || p l[j]) := by
  rw [List.take_succ_eq_append_getElem h, List.any_append]
  simp
theorem upTo_step {l : List Rec} {j : Nat} (time : Int) (h : j < l.length) : upTo time (l.take (j + 1)) = if l[j].at_ ≤ time then upTo time (l.take j) ++ [l[j]] else upTo time (l.take j) := by
  unfold upTo
  rw [List.take_succ_eq_append_getElem h, List.filter_append]
  by_cases e : l[j].at_ ≤ time <;> simp [e]
def VE (l M : List Rec) (time : Int) (y : Nat × Option (Acc Rec)) : Env := [(0, Rec.lst l), (1, .int time), (5, Rec.lst M), (21, accP y.2), (22, .nil), (197, Rec.lst l), (198, .int l.length), (199, .int y.1)]
def VF (l M : List Rec) (time : Int) (y : Nat × Option (Acc Rec)) : Env := [(0, Rec.lst l), (1, .int time), (5, Rec.lst M), (21, Rec.lst (accL y.2)), (22, .nil), (197, Rec.lst l), (198, .int l.length), (199, .int y.1)]
def VI (l : List Rec) (time : Int) (st : Store) (y : Nat × Option (Acc Rec)) : Prop := y.1 ≤ l.length ∧ accOk Rec.row 7 st y.2 ∧ accL y.2 = upTo time (l.take y.1)
def WE (M A : List Rec) (time : Int) (y : Nat × Option (Acc Rec)) : Env := [(1, .int time), (21, Rec.lst A), (22, accP y.2), (212, Rec.lst M), (213, .int M.length), (214, .int y.1)]
def WF (M A : List Rec) (time : Int) (y : Nat × Option (Acc Rec)) : Env := [(1, .int time), (21, Rec.lst A), (22, Rec.lst (accL y.2)), (212, Rec.lst M), (213, .int M.length), (214, .int y.1)]
theorem VV (l M : List Rec) (time : Int) (st : Store) (y : Nat × Option (Acc Rec)) (h : VI l time st y) (_ : y.1 = l.length) : View ⟨VE l M time y, accS T.apiRecord st y.2⟩ ⟨VF l M time y, st⟩ :=
  View.acc rfl h.2.1 (.refl _) (by simp [VE, VF])
theorem WV (M A : List Rec) (time : Int) (st : Store) (y : Nat × Option (Acc Rec)) (h : VI M time st y) (_ : y.1 = M.length) : View ⟨WE M A time y, accS T.apiRecord st y.2⟩ ⟨WF M A time y, st⟩ :=
  View.acc rfl h.2.1 (.refl _) (by simp [WE, WF])
def CmpC (l : List Rec) : Prop := ∀ x ∈ l, ∀ y ∈ l, ∃ c : Int, (c < 0 ↔ valR x < valR y) ∧ (c ≤ 0 ↔ valR x ≤ valR y) ∧ ∀ st, Rets P F.ratio_Cmp [x.score.pv, y.score.pv] st (.tuple [.int c, .int 0])
theorem rising_law (l : List Rec) (hl : l.length ≤ 9223372036854775807) (time : Int) (st : Store) : Rets P F.podiumlaw26_SeasonRising [Rec.lst l, .int time] st (.bool true) := by
  have cf := fewS_spec false l
  cases hw : fewS l with
  | false =>
    rw [hw] at cf
    clear hw
    refine H.podiumlaw26_SeasonRising.view hmix rfl rfl ?_
    repeat' (first 
     | (with_reducible refine Rets.xcall (sane_spec _) ?_)
     | (with_reducible refine Rets.xcall (cf _) ?_)
     | (simp -dsimp -implicitDefEqProofs [*]))
    exact .same ⟨rfl, rfl⟩
  | true =>
  rw [hw] at cf
  by_cases h30 : (30 : Int) < l.length
  · clear hw
    refine H.podiumlaw26_SeasonRising.view hmix rfl rfl ?_
    repeat' (first 
     | (with_reducible refine Rets.xcall (sane_spec _) ?_)
     | (with_reducible refine Rets.xcall (cf _) ?_)
     | (simp -dsimp -implicitDefEqProofs [*]))
    exact .same ⟨rfl, rfl⟩
  have hl4 : l.length ≤ 4096 := by omega
  by_cases hL : ListedR l
  case neg =>
    have cl := rListed_spec false l hl (w := false) (fun h => absurd h hL) (fun _ _ _ => rfl)
    clear hw
    refine H.podiumlaw26_SeasonRising.view hmix rfl rfl ?_
    repeat' (first 
     | (with_reducible refine Rets.xcall (sane_spec _) ?_)
     | (with_reducible refine Rets.xcall (cf _) ?_)
     | (with_reducible refine Rets.xcall (cl _) ?_)
     | (simp -dsimp -implicitDefEqProofs [*]))
    exact .same ⟨rfl, rfl⟩
  have cl := rListed_spec false l hl (w := true) (fun _ => rfl) (fun i hi h => by have := hL i hi; rw [h] at this; cases this)
  have hF : ∀ x ∈ l, few6 x.score = true := (fewS_all hw hl4).2
  have hC : CmpC l := fun x hx y hy => by
    obtain ⟨c, h1, h2, h3, -⟩ := cmp6 (hL.ok x hx) (hF x hx) (hL.ok y hy) (hF y hy)
    exact ⟨c, h1, h2, h3⟩
  have c1 := sRecords_spec false l (fun _ x hx => few6_len (hF x hx)) (fun _ => hF)
  have hA4 : (upTo time l).length ≤ l.length := List.length_filter_le _ _
  have hAF : ∀ x ∈ upTo time l, few6 x.score = true := fun x hx => hF x ((List.mem_filter.1 hx).1)
  have c2 := sRecords_spec false (upTo time l) (fun _ x hx => few6_len (hAF x hx)) (fun _ => hAF)
  rw [(recE_listed hL hl4).1] at c1
  rw [(recE_listed (hL.upTo time) (by omega)).1] at c2
  have hml : (recL l).length ≤ l.length := recL_len l
  have hB := recL_upTo hL hl4 time
  have hBl : (recL (upTo time l)).length ≤ l.length := Nat.le_trans (recL_len _) hA4
  have s1 := sameR_spec false false (recL (upTo time l)) (recL (upTo time l)) (by omega) fun x hx => few6_len (hAF x (recL_mem hx).1)
  rw [decide_eq_true rfl] at s1
  have hmem : ∀ x ∈ recL l, x ∈ l := fun x hx => (recL_mem hx).1
  have hpr := recL_pair hL hl4
  have hcv : ∀ y ∈ l, (recL l).any (beatB y) = true := fun y hy => by
    obtain ⟨r, h1, h2, h3⟩ := recL_cover hL hl4 hy
    refine List.any_eq_true.2 ⟨r, h1, ?_⟩
    simp only [beatB, Bool.and_eq_true, Bool.or_eq_true, decide_eq_true_eq]
    exact ⟨h2, h3⟩
  have hnil : recL l = [] ↔ l = [] := recL_nil hL hl4
  have hsm : ∀ x ∈ l, ∀ y ∈ l, ∀ st, Rets P F.podiumref26_Same [.list true x.enc 1, .list true y.enc 1] st (.bool (decide (x = y))) := fun x hx y hy st => by
    have := sameR_spec true true [x] [y] (by simp) (fun z hz => by rw [List.mem_singleton.1 hz]; exact few6_len (hF x hx)) st
    rw [row1, row1] at this
    rw [show decide (x = y) = decide ([x] = [y]) from decide_eq_decide.2 (by simp)]
    exact this
  obtain ⟨B, yB⟩ : ∃ B, B = recL (upTo time l) := ⟨_, rfl⟩
  obtain ⟨A, yA⟩ : ∃ A, A = upTo time l := ⟨_, rfl⟩
  obtain ⟨M, yM⟩ : ∃ M, M = recL l := ⟨_, rfl⟩
  rw [← yB] at c2 s1 hB hBl
  rw [← yA] at c2 hA4
  rw [← yM] at c1 hml hmem hpr hcv hnil hB
  have kA := Hid.mk yA
  have kB := Hid.mk hB
  have kC := Hid.mk hC
  have kmem := Hid.mk hmem
  have kpr := Hid.mk hpr
  have kcv := Hid.mk hcv
  have ksm := Hid.mk hsm
  clear hsm hcv hpr hmem hC hB yA yB yM hAF hF hw hL
  refine H.podiumlaw26_SeasonRising.view hmix rfl rfl ?_
  repeat' (first 
   | (with_reducible refine Rets.xcall (sane_spec _) ?_)
   | (with_reducible refine Rets.xcall (cf _) ?_)
   | (with_reducible refine Rets.xcall (cl _) ?_)
   | (with_reducible refine Rets.xcall (c1 _) ?_)
   | (with_reducible refine And.intro (fun h => ?_) ?_) <;> (try (exfalso; omega))
   | (simp -dsimp -implicitDefEqProofs [*]))
  clear hnil cl cf c1
  refine xloop_for (fun n : Nat => [(0, Rec.lst l), (1, .int time), (5, Rec.lst M), (67, Rec.lst M), (68, .int M.length), (69, .int n)]) (fun _ => st) (fun n => n ≤ M.length) (fun n => M.length - n) 0 (Nat.zero_le _) (by simp) (.refl _) ?_
  intro n hn
  by_cases hnl : n < M.length
  · have hw := wrap_succ (n := n) (by omega)
    have s0 := Rec.row_sub M n hnl
    have hn7 : n * 7 < M.length * 7 := by omega
    have hxm := kmem.out _ (List.getElem_mem hnl)
    have kp : Hid (∀ k, k + 1 = n → ∀ h : k < M.length, valR M[k] < valR M[n] ∧ Behind SortRec.key Less M[k] M[n]) := ⟨fun k hk h => List.pairwise_iff_getElem.1 kpr.out k n h hnl (by omega)⟩
    obtain ⟨x, hx⟩ : ∃ x, x = M[n] := ⟨_, rfl⟩
    rw [← hx] at s0 hxm kp
    clear hx
    repeat' (first 
     | (with_reducible refine Fresh.intro fun b hb => ?_) <;> (try simp -dsimp -implicitDefEqProofs [*] at hb)
     | (simp -dsimp -implicitDefEqProofs [*]))
    revert b; intro bx hbx
    refine xloop_for (fun y : Nat × Bool => [(0, Rec.lst l), (1, .int time), (5, Rec.lst M), (67, Rec.lst M), (68, .int M.length), (69, .int n), (7, .int n), (8, .ptr bx 0), (9, .bool y.2), (74, Rec.lst l), (75, .int l.length), (76, .int y.1)]) (fun _ => (bx, .arr T.apiRecord x.enc) :: st) (fun y => y.1 ≤ l.length ∧ Hid (y.2 = (l.take y.1).any fun q => decide (q = x))) (fun y => l.length - y.1) (0, false) ⟨Nat.zero_le _, ⟨rfl⟩⟩ (by simp) (.refl _) ?_
    rintro ⟨j, w⟩ ⟨hj, hjk⟩
    replace hj : j ≤ l.length := hj
    replace hjk : Hid (w = (l.take j).any fun q => decide (q = x)) := hjk
    by_cases hjl : j < l.length
    · have hw2 := wrap_succ (n := j) (by omega)
      have t0 := Rec.row_sub l j hjl
      have hj7 : j * 7 < l.length * 7 := by omega
      have hyl := List.getElem_mem hjl
      have hst : Hid ((l.take (j + 1)).any (fun q => decide (q = x)) = (w || decide (l[j] = x))) := ⟨by rw [any_step hjl, ← hjk.out]⟩
      obtain ⟨y, hy⟩ : ∃ y, y = l[j] := ⟨_, rfl⟩
      rw [← hy] at t0 hyl hst
      have cs := ksm.out y hyl x hxm
      obtain ⟨v, hv⟩ : ∃ v, v = decide (y = x) := ⟨_, rfl⟩
      rw [← hv] at cs hst
      clear hy hv hjk kp
      cases w with
      | true =>
        have k1 : Hid (true = (l.take (j + 1)).any fun q => decide (q = x)) := ⟨by rw [hst.out]; rfl⟩
        clear hst
        repeat' (first 
         | (with_reducible refine Fresh.intro fun b hb => ?_) <;> (try simp -dsimp -implicitDefEqProofs [*] at hb)
         | (simp -dsimp -implicitDefEqProofs [*]))
        exact Next.intro (j + 1, true) ⟨by simp only; omega, k1⟩ (by simp only; omega) (by simp) (by repeat' (first | exact StLe.refl _ | (refine StLe_cons (by simp [*]; done) ?_) | (refine StLe_fresh (by simp [*]; done) ?_)))
      | false =>
        have k1 : Hid (v = (l.take (j + 1)).any fun q => decide (q = x)) := ⟨by rw [hst.out]; rfl⟩
        clear hst
        repeat' (first 
         | (with_reducible refine Fresh.intro fun b hb => ?_) <;> (try simp -dsimp -implicitDefEqProofs [*] at hb)
         | (with_reducible refine Rets.xcall (cs _) ?_)
         | (with_reducible refine Lit.imm ?_)
         | (simp -dsimp -implicitDefEqProofs [*]))
        exact Next.intro (j + 1, v) ⟨by simp only; omega, k1⟩ (by simp only; omega) (by simp) (by repeat' (first | exact StLe.refl _ | (refine StLe_cons (by simp [*]; done) ?_) | (refine StLe_fresh (by simp [*]; done) ?_)))
    · have hj0 : j = l.length := by omega
      subst hj0
      have hw1 : w = true := by
        have := hjk.out
        rw [List.take_length] at this
        rw [this]
        exact List.any_eq_true.2 ⟨x, hxm, by simp⟩
      subst hw1
      clear hjk
      cases n with
      | zero =>
        clear kp
        repeat' (simp -dsimp -implicitDefEqProofs [*])
        exact Next.intro 1 (by omega) (by omega) (by simp) (by repeat' (first | exact StLe.refl _ | (refine StLe_cons (by simp [*]; done) ?_) | (refine StLe_fresh (by simp [*]; done) ?_)))
      | succ k =>
        have hkl : k < M.length := by omega
        obtain ⟨p1, p2⟩ := kp.out k rfl hkl
        have hqm := kmem.out _ (List.getElem_mem hkl)
        have wk : IntKind.i64.wrap (((k + 1 : Nat) : Int) - 1) = (k : Int) := by rw [wrap_in (by omega) (by omega)]; omega
        have g0 := Rec.row_get0 M k hkl
        have g2 := Rec.row_get2 M k hkl
        have G0 : ∀ h, (Rec.row M)[k * 7]'h = .int M[k].no := fun h => by have := List.getElem?_eq_getElem h; rw [g0] at this; exact (Option.some.inj this).symm
        have G2 : ∀ h, (Rec.row M)[k * 7 + 2]'h = .int M[k].at_ := fun h => by have := List.getElem?_eq_getElem h; rw [g2] at this; exact (Option.some.inj this).symm
        have g3 := Rec.row_score hkl
        have hk7 : k * 7 < M.length * 7 ∧ k * 7 + 2 < M.length * 7 ∧ k * 7 + 3 < M.length * 7 := by omega
        obtain ⟨q, hq⟩ : ∃ q, q = M[k] := ⟨_, rfl⟩
        rw [← hq] at g0 g2 G0 G2 g3 p1 p2 hqm
        obtain ⟨c, c1, c2', cc⟩ := kC.out q hqm x hxm
        have hc : c < 0 := c1.2 p1
        have hno : q.at_ = x.at_ → q.no ≤ x.no := fun e => by
          rcases p2 with h | ⟨-, h⟩
          · exact absurd e (Int.ne_of_lt h)
          · exact Int.le_of_lt h
        have hat : q.at_ ≤ x.at_ := by
          rcases p2 with h | ⟨h, -⟩
          · exact Int.le_of_lt h
          · exact Int.le_of_eq h
        obtain ⟨n, hnk⟩ : ∃ n, n = k + 1 := ⟨_, rfl⟩
        rw [← hnk] at hw wk hnl hn s0 hn7 ⊢
        have hn0 : (0 : Int) < n := by omega
        clear hq p1 p2 c1 c2' hnk kp
        by_cases e : q.at_ = x.at_
        · have hno := hno e
          repeat' (first 
           | (with_reducible refine Rets.xcall (cc _) ?_)
           | (with_reducible refine DrawLate.intro [] ?_)
           | (with_reducible refine And.intro (fun h => ?_) (fun h => ?_)) <;> (try (exfalso; omega))
           | (with_reducible refine And.intro (fun h => ?_) ?_) <;> (try (exfalso; omega))
           | (simp -dsimp -implicitDefEqProofs [*]))
          exact Next.intro (n + 1) (by omega) (by omega) (by simp) (by repeat' (first | exact StLe.refl _ | (refine StLe_cons (by simp [*]; done) ?_) | (refine StLe_fresh (by simp [*]; done) ?_)))
        · clear hno
          repeat' (first 
           | (with_reducible refine Rets.xcall (cc _) ?_)
           | (with_reducible refine DrawLate.intro [] ?_)
           | (with_reducible refine And.intro (fun h => ?_) (fun h => ?_)) <;> (try (exfalso; omega))
           | (with_reducible refine And.intro (fun h => ?_) ?_) <;> (try (exfalso; omega))
           | (simp -dsimp -implicitDefEqProofs [*]))
          exact Next.intro (n + 1) (by omega) (by omega) (by simp) (by repeat' (first | exact StLe.refl _ | (refine StLe_cons (by simp [*]; done) ?_) | (refine StLe_fresh (by simp [*]; done) ?_)))
  obtain rfl : n = M.length := by omega
  clear hn hnl kpr ksm
  repeat' (simp -dsimp -implicitDefEqProofs [*])
  refine xloop_for (fun n : Nat => [(0, Rec.lst l), (1, .int time), (5, Rec.lst M), (145, Rec.lst l), (146, .int l.length), (147, .int n)]) (fun _ => st) (fun n => n ≤ l.length) (fun n => l.length - n) 0 (Nat.zero_le _) (by simp) (.refl _) ?_
  intro n hn
  by_cases hnl : n < l.length
  · have hw := wrap_succ (n := n) (by omega)
    have s0 := Rec.row_sub l n hnl
    have hn7 : n * 7 < l.length * 7 := by omega
    have hxm := List.getElem_mem hnl
    obtain ⟨y, hy⟩ : ∃ y, y = l[n] := ⟨_, rfl⟩
    rw [← hy] at s0 hxm
    have kcv := Hid.mk (kcv.out y hxm)
    clear hy
    repeat' (first 
     | (with_reducible refine Fresh.intro fun b hb => ?_) <;> (try simp -dsimp -implicitDefEqProofs [*] at hb)
     | (simp -dsimp -implicitDefEqProofs [*]))
    revert b; intro bx hbx
    refine xloop_for (fun z : Nat × Bool => [(0, Rec.lst l), (1, .int time), (5, Rec.lst M), (145, Rec.lst l), (146, .int l.length), (147, .int n), (15, .ptr bx 0), (16, .bool z.2), (151, Rec.lst M), (152, .int M.length), (153, .int z.1)]) (fun _ => (bx, .arr T.apiRecord y.enc) :: st) (fun z => z.1 ≤ M.length ∧ Hid (z.2 = (M.take z.1).any (beatB y))) (fun z => M.length - z.1) (0, false) ⟨Nat.zero_le _, ⟨rfl⟩⟩ (by simp) (.refl _) ?_
    rintro ⟨j, w⟩ ⟨hj, hjk⟩
    replace hj : j ≤ M.length := hj
    replace hjk : Hid (w = (M.take j).any (beatB y)) := hjk
    by_cases hjl : j < M.length
    · have hw2 := wrap_succ (n := j) (by omega)
      have t0 := Rec.row_sub M j hjl
      have hj7 : j * 7 < M.length * 7 := by omega
      have hrl := kmem.out _ (List.getElem_mem hjl)
      have hst : Hid ((M.take (j + 1)).any (beatB y) = (w || beatB y M[j])) := ⟨by rw [any_step hjl, ← hjk.out]⟩
      obtain ⟨r, hr⟩ : ∃ r, r = M[j] := ⟨_, rfl⟩
      rw [← hr] at t0 hrl hst
      obtain ⟨c, -, c2', cc⟩ := kC.out y hxm r hrl
      clear hr hjk kcv
      cases w with
      | true =>
        have k1 : Hid (true = (M.take (j + 1)).any (beatB y)) := ⟨by rw [hst.out]; rfl⟩
        clear hst c2'
        repeat' (first 
         | (with_reducible refine Fresh.intro fun b hb => ?_) <;> (try simp -dsimp -implicitDefEqProofs [*] at hb)
         | (with_reducible refine Rets.xcall (cc _) ?_)
         | (simp -dsimp -implicitDefEqProofs [*]))
        exact Next.intro (j + 1, true) ⟨by simp only; omega, k1⟩ (by simp only; omega) (by simp) (by repeat' (first | exact StLe.refl _ | (refine StLe_cons (by simp [*]; done) ?_) | (refine StLe_fresh (by simp [*]; done) ?_)))
      | false =>
        have hb : beatB y r = (decide (c ≤ 0) && (decide (r.at_ < y.at_) || decide (r.at_ = y.at_) && decide (r.no ≤ y.no))) := by
          unfold beatB
          rw [decide_eq_decide.2 c2'.symm]
        have k1 : Hid ((decide (c ≤ 0) && (decide (r.at_ < y.at_) || decide (r.at_ = y.at_) && decide (r.no ≤ y.no))) = (M.take (j + 1)).any (beatB y)) := ⟨by rw [hst.out, hb]; rfl⟩
        clear hst c2' hb
        by_cases a1 : c ≤ 0
        case neg =>
          replace k1 : Hid (false = (M.take (j + 1)).any (beatB y)) := ⟨by rw [← k1.out]; simp [a1]⟩
          repeat' (first 
           | (with_reducible refine Fresh.intro fun b hb => ?_) <;> (try simp -dsimp -implicitDefEqProofs [*] at hb)
           | (with_reducible refine Rets.xcall (cc _) ?_)
           | (simp -dsimp -implicitDefEqProofs [*]))
          exact Next.intro (j + 1, false) ⟨by simp only; omega, k1⟩ (by simp only; omega) (by simp) (by repeat' (first | exact StLe.refl _ | (refine StLe_cons (by simp [*]; done) ?_) | (refine StLe_fresh (by simp [*]; done) ?_)))
        by_cases a2 : r.at_ < y.at_
        · replace k1 : Hid (true = (M.take (j + 1)).any (beatB y)) := ⟨by rw [← k1.out]; simp [a1, a2]⟩
          repeat' (first 
           | (with_reducible refine Fresh.intro fun b hb => ?_) <;> (try simp -dsimp -implicitDefEqProofs [*] at hb)
           | (with_reducible refine Rets.xcall (cc _) ?_)
           | (simp -dsimp -implicitDefEqProofs [*]))
          exact Next.intro (j + 1, true) ⟨by simp only; omega, k1⟩ (by simp only; omega) (by simp) (by repeat' (first | exact StLe.refl _ | (refine StLe_cons (by simp [*]; done) ?_) | (refine StLe_fresh (by simp [*]; done) ?_)))
        by_cases a3 : r.at_ = y.at_
        case neg =>
          replace k1 : Hid (false = (M.take (j + 1)).any (beatB y)) := ⟨by rw [← k1.out]; simp [a1, a2, a3]⟩
          repeat' (first 
           | (with_reducible refine Fresh.intro fun b hb => ?_) <;> (try simp -dsimp -implicitDefEqProofs [*] at hb)
           | (with_reducible refine Rets.xcall (cc _) ?_)
           | (simp -dsimp -implicitDefEqProofs [*]))
          exact Next.intro (j + 1, false) ⟨by simp only; omega, k1⟩ (by simp only; omega) (by simp) (by repeat' (first | exact StLe.refl _ | (refine StLe_cons (by simp [*]; done) ?_) | (refine StLe_fresh (by simp [*]; done) ?_)))
        by_cases a4 : r.no ≤ y.no
        · replace k1 : Hid (true = (M.take (j + 1)).any (beatB y)) := ⟨by rw [← k1.out]; simp [a1, a3, a4]⟩
          repeat' (first 
           | (with_reducible refine Fresh.intro fun b hb => ?_) <;> (try simp -dsimp -implicitDefEqProofs [*] at hb)
           | (with_reducible refine Rets.xcall (cc _) ?_)
           | (simp -dsimp -implicitDefEqProofs [*]))
          exact Next.intro (j + 1, true) ⟨by simp only; omega, k1⟩ (by simp only; omega) (by simp) (by repeat' (first | exact StLe.refl _ | (refine StLe_cons (by simp [*]; done) ?_) | (refine StLe_fresh (by simp [*]; done) ?_)))
        · replace k1 : Hid (false = (M.take (j + 1)).any (beatB y)) := ⟨by rw [← k1.out]; simp [a3, a4]⟩
          repeat' (first 
           | (with_reducible refine Fresh.intro fun b hb => ?_) <;> (try simp -dsimp -implicitDefEqProofs [*] at hb)
           | (with_reducible refine Rets.xcall (cc _) ?_)
           | (simp -dsimp -implicitDefEqProofs [*]))
          exact Next.intro (j + 1, false) ⟨by simp only; omega, k1⟩ (by simp only; omega) (by simp) (by repeat' (first | exact StLe.refl _ | (refine StLe_cons (by simp [*]; done) ?_) | (refine StLe_fresh (by simp [*]; done) ?_)))
    · have hj0 : j = M.length := by omega
      subst hj0
      have hw1 : w = true := by
        have := hjk.out
        rw [List.take_length] at this
        rw [this]
        exact kcv.out
      subst hw1
      clear hjk kcv
      repeat' (simp -dsimp -implicitDefEqProofs [*])
      exact Next.intro (n + 1) (by omega) (by omega) (by simp) (by repeat' (first | exact StLe.refl _ | (refine StLe_cons (by simp [*]; done) ?_) | (refine StLe_fresh (by simp [*]; done) ?_)))
  obtain rfl : n = l.length := by omega
  clear hn hnl kcv kC kmem
  repeat' (simp -dsimp -implicitDefEqProofs [*])
  refine xloop_fz (VE l M time) (fun y => accS T.apiRecord st y.2) (VI l time st) (fun y => l.length - y.1) (fun y => y.1 = l.length) (VF l M time) (fun _ => st)
    (VV l M time st) (0, none) ⟨Nat.zero_le _, trivial, rfl⟩ (by simp [VE]) (.refl _) ?_ ?_
  · rintro ⟨i, o⟩ ⟨hi, ho, hA⟩ hi2
    replace hi2 : i = l.length := hi2
    replace hA : accL o = upTo time (l.take i) := hA
    subst hi2
    rw [List.take_length, ← kA.out] at hA
    simp only [VF, hA]
    clear ho hA hi kA
    repeat' (simp -dsimp -implicitDefEqProofs [*])
    refine xloop_fz (WE M A time) (fun y => accS T.apiRecord st y.2) (VI M time st) (fun y => M.length - y.1) (fun y => y.1 = M.length) (WF M A time) (fun _ => st)
      (WV M A time st) (0, none) ⟨Nat.zero_le _, trivial, rfl⟩ (by simp [WE]) (.refl _) ?_ ?_
    · rintro ⟨i, o⟩ ⟨hi, ho, hA⟩ hi2
      replace hi2 : i = M.length := hi2
      replace hA : accL o = upTo time (M.take i) := hA
      subst hi2
      rw [List.take_length, kB.out] at hA
      simp only [WF, hA]
      clear ho hA hi kB
      repeat' (first 
       | (with_reducible refine Rets.xcall (c2 _) ?_)
       | (with_reducible refine Rets.xcall (s1 _) ?_)
       | (simp -dsimp -implicitDefEqProofs [*]))
      exact .same ⟨rfl, rfl⟩
    · rintro ⟨i, o⟩ ⟨hi, ho, hA⟩ hi2
      replace hi : i ≤ M.length := hi
      replace ho : accOk Rec.row 7 st o := ho
      replace hi2 : ¬ i = M.length := hi2
      replace hA : accL o = upTo time (M.take i) := hA
      simp only [WE]
      have hil : i < M.length := by omega
      have kv := Hid.mk (WV M A time st)
      have hw := wrap_succ (n := i) (by omega)
      have hi7 : i * 7 < M.length * 7 := by omega
      have s0 := Rec.row_sub M i hil
      have hst := upTo_step time hil
      have hlen : (accL o).length ≤ M.length := by rw [hA]; exact Nat.le_trans (List.length_filter_le _ _) (by rw [List.length_take]; omega)
      rw [← hA] at hst
      obtain ⟨x, hx⟩ : ∃ x, x = M[i] := ⟨_, rfl⟩
      rw [← hx] at s0 hst
      clear hx hA hi2 c2 s1 kB
      by_cases c1 : x.at_ ≤ time
      · rw [if_pos c1] at hst
        replace hst := Hid.mk hst
        repeat' (first 
         | (with_reducible refine Fresh.intro fun b hb => ?_) <;> (try simp -dsimp -implicitDefEqProofs [*] at hb)
         | (with_reducible refine Lit.imm ?_)
         | (simp -dsimp -implicitDefEqProofs [*]))
        refine xappend_box Rec.row_len Rec.row_append o ho hb [x] (by simp [row1]) rfl (by omega) (by omega) fun o2 ho2 hl2 => ?_
        have k1 : Hid (accL o2 = upTo time (M.take (i + 1))) := ⟨by rw [hl2, hst.out]⟩
        clear hl2 hst
        repeat' (simp -dsimp -implicitDefEqProofs [*])
        exact NextF.intro kv.out (i + 1, o2) ⟨by simp only; omega, ho2.unbox, k1.out⟩ (by simp only; omega) (by simp [WE]) (StLe.box o2 (accB_new hb).2)
      · rw [if_neg c1] at hst
        replace hst := Hid.mk hst
        repeat' (first 
         | (with_reducible refine Fresh.intro fun b hb => ?_) <;> (try simp -dsimp -implicitDefEqProofs [*] at hb)
         | (simp -dsimp -implicitDefEqProofs [*]))
        exact NextF.intro kv.out (i + 1, o) ⟨by simp only; omega, ho, hst.out.symm⟩ (by simp only; omega) (by simp [WE]) (by repeat' (first | exact StLe.refl _ | (refine StLe_cons (by simp [*]; done) ?_) | (refine StLe_fresh (by simp [*]; done) ?_)))
  · rintro ⟨i, o⟩ ⟨hi, ho, hA⟩ hi2
    replace hi : i ≤ l.length := hi
    replace ho : accOk Rec.row 7 st o := ho
    replace hi2 : ¬ i = l.length := hi2
    replace hA : accL o = upTo time (l.take i) := hA
    simp only [VE]
    have hil : i < l.length := by omega
    have kv := Hid.mk (VV l M time st)
    have hw := wrap_succ (n := i) (by omega)
    have hi7 : i * 7 < l.length * 7 := by omega
    have s0 := Rec.row_sub l i hil
    have hst := upTo_step time hil
    have hlen : (accL o).length ≤ l.length := by rw [hA]; exact Nat.le_trans (List.length_filter_le _ _) (by rw [List.length_take]; omega)
    rw [← hA] at hst
    obtain ⟨x, hx⟩ : ∃ x, x = l[i] := ⟨_, rfl⟩
    rw [← hx] at s0 hst
    clear hx hA hi2 c2 s1 kB
    by_cases c1 : x.at_ ≤ time
    · rw [if_pos c1] at hst
      replace hst := Hid.mk hst
      repeat' (first 
       | (with_reducible refine Fresh.intro fun b hb => ?_) <;> (try simp -dsimp -implicitDefEqProofs [*] at hb)
       | (with_reducible refine Lit.imm ?_)
       | (simp -dsimp -implicitDefEqProofs [*]))
      refine xappend_box Rec.row_len Rec.row_append o ho hb [x] (by simp [row1]) rfl (by omega) (by omega) fun o2 ho2 hl2 => ?_
      have k1 : Hid (accL o2 = upTo time (l.take (i + 1))) := ⟨by rw [hl2, hst.out]⟩
      clear hl2 hst
      repeat' (simp -dsimp -implicitDefEqProofs [*])
      exact NextF.intro kv.out (i + 1, o2) ⟨by simp only; omega, ho2.unbox, k1.out⟩ (by simp only; omega) (by simp [VE]) (StLe.box o2 (accB_new hb).2)
    · rw [if_neg c1] at hst
      replace hst := Hid.mk hst
      repeat' (first 
       | (with_reducible refine Fresh.intro fun b hb => ?_) <;> (try simp -dsimp -implicitDefEqProofs [*] at hb)
       | (simp -dsimp -implicitDefEqProofs [*]))
      exact NextF.intro kv.out (i + 1, o) ⟨by simp only; omega, ho, hst.out.symm⟩ (by simp only; omega) (by simp [VE]) (by repeat' (first | exact StLe.refl _ | (refine StLe_cons (by simp [*]; done) ?_) | (refine StLe_fresh (by simp [*]; done) ?_)))
end Go.Proofs.Ytgjgcflgjpigpaa
