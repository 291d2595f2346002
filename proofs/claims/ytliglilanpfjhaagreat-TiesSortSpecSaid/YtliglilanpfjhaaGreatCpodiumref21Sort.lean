/- The code of one function. -/
import Derived.Test.YtliglilanpfjhaaGreatCode
import Derived.Test.YtliglilanpfjhaaGreatG21RA
import Derived.Test.YtliglilanpfjhaaGreatLLx
set_option maxRecDepth 100000
namespace Go.Proofs.YtliglilanpfjhaaGreat
open Go.Pv
/-- podium/podiumref21.Sort -/
noncomputable def C.podiumref21_Sort : MFunc := ⟨96, 2, [.tmp 4, .tmp 5],
  (.seq (.region [
    ⟨(some 4), none, .val (.mv (.const .nil))⟩,
    ⟨(some 5), none, .val (.mv (.const (.int 0)))⟩] [])
  (.seq (.seq (.region [
    ⟨(some 14), none, .val (.mv (.tmp 0))⟩,
    ⟨(some 15), none, .call (.const (.func (.func F.podiumref21_Plain) [] [])) [(.tmp 14)]⟩,
    ⟨(some 16), none, .val (.un .not (.tmp 15))⟩] [14, 15])
  (.cond (.tmp 16)
  (.seq (.region [
    ⟨(some 4), none, .val (.mv (.const .nil))⟩,
    ⟨(some 5), none, .val (.mv (.const (.int 210)))⟩] [])
  .ret)
  .skip))
  (.seq (.seq (.region [
    ⟨(some 6), none, .val (.mv (.const (.int 0)))⟩] [])
  (.block 0 (.loop (.seq (.seq (.region [
    ⟨(some 17), none, .val (.mv (.tmp 6))⟩,
    ⟨(some 18), none, .val (.mv (.tmp 1))⟩,
    ⟨(some 19), none, .val (.len (.tmp 18))⟩,
    ⟨(some 20), none, .val (.bin .lss T.int (.tmp 17) (.tmp 19))⟩] [17, 18, 19])
  (.cond (.tmp 20)
  .skip
  (.exit 0)))
  (.seq (.block 1 (.seq (.region [
    ⟨(some 23), none, .val (.mv (.tmp 0))⟩,
    ⟨(some 24), none, .val (.mv (.tmp 1))⟩,
    ⟨(some 25), none, .val (.mv (.tmp 6))⟩,
    ⟨(some 26), none, .val (.indexAddr 10 (.tmp 24) (.tmp 25))⟩,
    ⟨(some 27), none, .val (.load 10 true (.tmp 26))⟩,
    ⟨(some 28), none, .call (.const (.func (.func F.podiumref21_Right) [] [])) [(.tmp 23), (.tmp 27)]⟩,
    ⟨(some 29), none, .val (.un .not (.tmp 28))⟩] [23, 24, 25, 26, 27, 28])
  (.cond (.tmp 29)
  (.seq (.region [
    ⟨(some 4), none, .val (.mv (.const .nil))⟩,
    ⟨(some 5), none, .val (.mv (.const (.int 210)))⟩] [])
  .ret)
  .skip)))
  (.region [
    ⟨(some 21), none, .val (.mv (.tmp 6))⟩,
    ⟨(some 22), none, .val (.bin .add T.int (.tmp 21) (.const (.int 1)))⟩,
    ⟨(some 6), none, .val (.mv (.tmp 22))⟩] [21, 22]))))))
  (.seq (.seq (.region [
    ⟨(some 30), none, .val (.mv (.tmp 1))⟩,
    ⟨(some 31), none, .val (.len (.tmp 30))⟩,
    ⟨(some 32), none, .val (.bin .gtr T.int (.tmp 31) (.const (.int 4096)))⟩] [30, 31])
  (.cond (.tmp 32)
  (.seq (.region [
    ⟨(some 4), none, .val (.mv (.const .nil))⟩,
    ⟨(some 5), none, .val (.mv (.const (.int 2)))⟩] [])
  .ret)
  .skip))
  (.seq (.region [
    ⟨(some 33), none, .val (.buildSlice T.int 0 [] [])⟩,
    ⟨(some 7), none, .val (.mv (.tmp 33))⟩] [33])
  (.seq (.seq (.region [
    ⟨(some 8), none, .val (.mv (.const (.int 0)))⟩] [])
  (.block 2 (.loop (.seq (.seq (.region [
    ⟨(some 34), none, .val (.mv (.tmp 8))⟩,
    ⟨(some 35), none, .val (.mv (.tmp 1))⟩,
    ⟨(some 36), none, .val (.len (.tmp 35))⟩,
    ⟨(some 37), none, .val (.bin .lss T.int (.tmp 34) (.tmp 36))⟩] [34, 35, 36])
  (.cond (.tmp 37)
  .skip
  (.exit 2)))
  (.seq (.block 3 (.seq (.region [
    ⟨(some 9), none, .val (.mv (.const (.int 0)))⟩] [])
  (.seq (.block 4 (.loop (.seq (.seq (.region [
    ⟨(some 40), none, .val (.mv (.tmp 9))⟩,
    ⟨(some 41), none, .val (.mv (.tmp 7))⟩,
    ⟨(some 42), none, .val (.len (.tmp 41))⟩,
    ⟨(some 43), none, .val (.bin .lss T.int (.tmp 40) (.tmp 42))⟩] [40, 41, 42])
  (.cond (.tmp 43)
  .skip
  (.exit 4)))
  (.block 5 (.seq (.region [
    ⟨(some 44), none, .val (.mv (.tmp 7))⟩,
    ⟨(some 45), none, .val (.mv (.tmp 9))⟩,
    ⟨(some 46), none, .val (.indexAddr 1 (.tmp 44) (.tmp 45))⟩,
    ⟨(some 47), none, .val (.load 1 false (.tmp 46))⟩,
    ⟨(some 10), none, .val (.mv (.tmp 47))⟩] [44, 45, 46, 47])
  (.seq (.draw true [
    (.early, ⟨(some 49), none, .val (.mv (.tmp 0))⟩),
    (.early, ⟨(some 50), none, .val (.mv (.tmp 1))⟩),
    (.early, ⟨(some 51), none, .val (.mv (.tmp 10))⟩),
    (.early, ⟨(some 52), none, .val (.indexAddr 10 (.tmp 50) (.tmp 51))⟩),
    (.early, ⟨(some 53), none, .val (.load 10 true (.tmp 52))⟩),
    (.early, ⟨(some 54), none, .val (.mv (.tmp 1))⟩),
    (.early, ⟨(some 55), none, .val (.mv (.tmp 8))⟩),
    (.early, ⟨(some 56), none, .val (.indexAddr 10 (.tmp 54) (.tmp 55))⟩),
    (.early, ⟨(some 57), none, .val (.load 10 true (.tmp 56))⟩),
    (.hard, ⟨(some 58), none, .call (.const (.func (.func F.podiumref21_first) [] [])) [(.tmp 49), (.tmp 53), (.tmp 57)]⟩),
    (.late, ⟨(some 48), none, .val (.mv (.tmp 58))⟩),
    (.late, ⟨(some 59), none, .val (.extract 0 (.tmp 48))⟩),
    (.late, ⟨(some 60), none, .val (.extract 1 (.tmp 48))⟩),
    (.late, ⟨(some 11), none, .val (.mv (.tmp 59))⟩),
    (.late, ⟨(some 12), none, .val (.mv (.tmp 60))⟩)] [49, 50, 51, 52, 53, 54, 55, 56, 57, 58, 48, 59, 60, 12])
  (.seq (.seq (.draw false [
    (.early, ⟨(some 61), none, .val (.mv (.tmp 11))⟩),
    (.early, ⟨(some 62), none, .val (.bin .gtr T.int (.tmp 61) (.const (.int 0)))⟩),
    (.early, ⟨(some 63), none, .val (.mv (.tmp 62))⟩),
    (.early, ⟨(some 64), (some (63, false)), .val (.mv (.tmp 11))⟩),
    (.early, ⟨(some 65), (some (63, false)), .val (.bin .eql T.int (.tmp 64) (.const (.int 0)))⟩),
    (.early, ⟨(some 66), (some (63, false)), .val (.mv (.tmp 65))⟩),
    (.early, ⟨(some 67), (some (66, true)), .val (.mv (.tmp 1))⟩),
    (.early, ⟨(some 68), (some (66, true)), .val (.mv (.tmp 10))⟩),
    (.early, ⟨(some 69), (some (66, true)), .val (.indexAddr 10 (.tmp 67) (.tmp 68))⟩),
    (.early, ⟨(some 70), (some (66, true)), .val (.fieldAddr 0 (.tmp 69))⟩),
    (.early, ⟨(some 71), (some (66, true)), .val (.load 1 false (.tmp 70))⟩),
    (.early, ⟨(some 72), (some (66, true)), .val (.mv (.tmp 1))⟩),
    (.early, ⟨(some 73), (some (66, true)), .val (.mv (.tmp 8))⟩),
    (.early, ⟨(some 74), (some (66, true)), .val (.indexAddr 10 (.tmp 72) (.tmp 73))⟩),
    (.early, ⟨(some 75), (some (66, true)), .val (.fieldAddr 0 (.tmp 74))⟩),
    (.early, ⟨(some 76), (some (66, true)), .val (.load 1 false (.tmp 75))⟩),
    (.early, ⟨(some 77), (some (66, true)), .val (.bin .gtr T.int (.tmp 71) (.tmp 76))⟩),
    (.early, ⟨(some 78), (some (63, false)), .val (.pick (.tmp 66) (.tmp 77) (.const (.bool false)))⟩),
    (.early, ⟨(some 79), none, .val (.pick (.tmp 63) (.const (.bool true)) (.tmp 78))⟩)] [61, 62, 63, 64, 65, 66, 67, 68, 69, 70, 71, 72, 73, 74, 75, 76, 77, 78])
  (.cond (.tmp 79)
  (.exit 4)
  .skip))
  (.region [
    ⟨(some 80), none, .val (.mv (.tmp 9))⟩,
    ⟨(some 81), none, .val (.bin .add T.int (.tmp 80) (.const (.int 1)))⟩,
    ⟨(some 9), none, .val (.mv (.tmp 81))⟩] [80, 81]))))))))
  (.seq (.region [
    ⟨(some 82), none, .val (.buildSlice T.int 0 [] [])⟩,
    ⟨(some 83), none, .val (.mv (.tmp 7))⟩,
    ⟨(some 84), none, .val (.mv (.tmp 9))⟩,
    ⟨(some 85), none, .val (.slice 1 (.tmp 83) (some (.tmp 84)) none none)⟩,
    ⟨(some 86), none, .append T.int 8 1 (.tmp 82) (.tmp 85)⟩,
    ⟨(some 13), none, .val (.mv (.tmp 86))⟩] [82, 83, 84, 85, 86])
  (.region [
    ⟨(some 87), none, .val (.mv (.tmp 7))⟩,
    ⟨(some 88), none, .val (.mv (.tmp 9))⟩,
    ⟨(some 89), none, .val (.slice 1 (.tmp 87) none (some (.tmp 88)) none)⟩,
    ⟨(some 90), none, .val (.mv (.tmp 8))⟩,
    ⟨(some 91), none, .val (.buildSlice T.int 1 [(.int 0)] [(0, 1, (.tmp 90))])⟩,
    ⟨(some 92), none, .append T.int 8 1 (.tmp 89) (.tmp 91)⟩,
    ⟨(some 93), none, .val (.mv (.tmp 13))⟩,
    ⟨(some 94), none, .append T.int 8 1 (.tmp 92) (.tmp 93)⟩,
    ⟨(some 7), none, .val (.mv (.tmp 94))⟩] [87, 88, 89, 90, 91, 92, 93, 94])))))
  (.region [
    ⟨(some 38), none, .val (.mv (.tmp 8))⟩,
    ⟨(some 39), none, .val (.bin .add T.int (.tmp 38) (.const (.int 1)))⟩,
    ⟨(some 8), none, .val (.mv (.tmp 39))⟩] [38, 39]))))))
  (.seq (.region [
    ⟨(some 95), none, .val (.mv (.tmp 7))⟩,
    ⟨(some 4), none, .val (.mv (.tmp 95))⟩,
    ⟨(some 5), none, .val (.mv (.const (.int 0)))⟩] [95])
  .ret)))))))⟩
theorem H.podiumref21_Sort : Has P F.podiumref21_Sort C.podiumref21_Sort := ⟨Tryz.f11, Tryz.func11, by kernel_rfl, by kernel_rfl⟩
end Go.Proofs.YtliglilanpfjhaaGreat
/- The code of one function. -/
set_option maxRecDepth 100000
namespace Go.Proofs.YtliglilanpfjhaaGreat
open Go.Pv
/-- podium/podiumlaw21.TiesSortSpec -/
noncomputable def C.podiumlaw21_TiesSortSpec : MFunc := ⟨35, 2, [.tmp 4],
  (.seq (.region [
    ⟨(some 4), none, .val (.mv (.const (.bool false)))⟩] [])
  (.seq (.seq (.region [
    ⟨(some 9), none, .call (.const (.func (.func F.podiumlaw21_sane) [] [])) []⟩,
    ⟨(some 10), none, .val (.un .not (.tmp 9))⟩] [9])
  (.cond (.tmp 10)
  (.seq (.region [
    ⟨(some 4), none, .val (.mv (.const (.bool false)))⟩] [])
  .ret)
  .skip))
  (.seq (.seq (.region [
    ⟨(some 11), none, .val (.mv (.tmp 0))⟩,
    ⟨(some 12), none, .val (.mv (.tmp 1))⟩,
    ⟨(some 13), none, .call (.const (.func (.func F.podiumref21_Few) [] [])) [(.tmp 11), (.tmp 12)]⟩,
    ⟨(some 14), none, .val (.un .not (.tmp 13))⟩] [11, 12, 13])
  (.cond (.tmp 14)
  (.seq (.region [
    ⟨(some 4), none, .val (.mv (.const (.bool true)))⟩] [])
  .ret)
  .skip))
  (.seq (.region [
    ⟨(some 16), none, .val (.mv (.tmp 0))⟩,
    ⟨(some 17), none, .val (.mv (.tmp 1))⟩,
    ⟨(some 18), none, .call (.const (.func (.func F.ties_Sort) [] [])) [(.tmp 16), (.tmp 17)]⟩,
    ⟨(some 15), none, .val (.mv (.tmp 18))⟩,
    ⟨(some 19), none, .val (.extract 0 (.tmp 15))⟩,
    ⟨(some 20), none, .val (.extract 1 (.tmp 15))⟩,
    ⟨(some 5), none, .val (.mv (.tmp 19))⟩,
    ⟨(some 6), none, .val (.mv (.tmp 20))⟩] [16, 17, 18, 15, 19, 20])
  (.seq (.region [
    ⟨(some 22), none, .val (.mv (.tmp 0))⟩,
    ⟨(some 23), none, .val (.mv (.tmp 1))⟩,
    ⟨(some 24), none, .call (.const (.func (.func F.podiumref21_Sort) [] [])) [(.tmp 22), (.tmp 23)]⟩,
    ⟨(some 21), none, .val (.mv (.tmp 24))⟩,
    ⟨(some 25), none, .val (.extract 0 (.tmp 21))⟩,
    ⟨(some 26), none, .val (.extract 1 (.tmp 21))⟩,
    ⟨(some 7), none, .val (.mv (.tmp 25))⟩,
    ⟨(some 8), none, .val (.mv (.tmp 26))⟩] [22, 23, 24, 21, 25, 26])
  (.seq (.region [
    ⟨(some 27), none, .val (.mv (.tmp 5))⟩,
    ⟨(some 28), none, .val (.mv (.tmp 7))⟩,
    ⟨(some 29), none, .call (.const (.func (.func F.podiumref13_SameInts) [] [])) [(.tmp 27), (.tmp 28)]⟩,
    ⟨(some 30), none, .val (.mv (.tmp 29))⟩,
    ⟨(some 31), (some (30, true)), .val (.mv (.tmp 6))⟩,
    ⟨(some 32), (some (30, true)), .val (.mv (.tmp 8))⟩,
    ⟨(some 33), (some (30, true)), .val (.bin .eql T.apiErrno (.tmp 31) (.tmp 32))⟩,
    ⟨(some 34), none, .val (.pick (.tmp 30) (.tmp 33) (.const (.bool false)))⟩,
    ⟨(some 4), none, .val (.mv (.tmp 34))⟩] [27, 28, 29, 30, 31, 32, 33, 34])
  .ret))))))⟩
theorem H.podiumlaw21_TiesSortSpec : Has P F.podiumlaw21_TiesSortSpec C.podiumlaw21_TiesSortSpec := ⟨Tryz.f4, Tryz.func4, by kernel_rfl, by kernel_rfl⟩
end Go.Proofs.YtliglilanpfjhaaGreat
/- The reference's sorting. -/
namespace Go.Proofs.YtliglilanpfjhaaGreat
open Go.Pv
set_option maxRecDepth 100000
set_option maxHeartbeats 8000000
theorem Acc.cut {a : Acc Int} (ha : a.Ok intRow 1) {i : Nat} (hi : i ≤ a.l.length) : (Acc.mk (a.l.take i) a.b a.cap a.R).Ok intRow 1 := by
  refine ⟨?_, ha.cap, ha.len, ?_⟩
  · have := ha.le
    simp only [List.length_take]
    omega
  · have := ha.row
    simp only [List.length_take, Nat.mul_one] at this ⊢
    rw [Nat.min_eq_left hi, ← intRow_take, ← this, List.take_take, Nat.min_eq_left hi]
theorem srt_put {key : Int → Int} {i at_ : Nat} {R : List Int} (hR : R = srt key (idxs i)) (hle : at_ ≤ R.length) (h1 : ∀ j (h : j < R.length), j < at_ → key R[j] ≤ key i) (h2 : ∀ h : at_ < R.length, key i < key R[at_]) : R.take at_ ++ (i : Int) :: R.drop at_ = srt key (idxs (i + 1)) := by
  have hs : Srtd key (R.take at_ ++ R.drop at_) := by rw [List.take_append_drop, hR]; exact srt_srtd _
  rw [srt_snoc hs, List.take_append_drop, idxs_succ, hR, SortI.srt_more]
  · intro p hp
    obtain ⟨j, hj, rfl⟩ := List.mem_take_iff_getElem.1 hp
    exact h1 j (by omega) (by omega)
  · intro q hq
    obtain ⟨j, hj, rfl⟩ := List.mem_drop_iff_getElem.1 hq
    have hat : at_ < R.length := by omega
    have hsr : Srtd key R := by rw [hR]; exact srt_srtd _
    have := h2 hat
    rcases Nat.eq_zero_or_pos j with rfl | hj0
    · simpa using this
    · have h3 := List.pairwise_iff_getElem.1 hsr at_ (at_ + j) hat (by omega) (by omega)
      omega
theorem mem_srtI {key : Int → Int} {n : Nat} {x : Int} (h : x ∈ srt key (idxs n)) : ∃ j : Nat, j < n ∧ x = j := mem_idxs.1 (mem_srt.1 h)
theorem put_ok {R2 : List PV} {b2 c2 n m : Nat} {i : Nat} {T xs S : List Int} (hX : T ++ (i : Int) :: xs = S) (hT : T.length = n) (hxs : xs.length = m) (p2 : n + 1 + m ≤ c2) (p3 : c2 ≤ 9223372036854775807) (p4 : R2.length = c2 * 1)
    (p5 : R2.take ((n + 1 + m) * 1) = intRow T ++ [.int i] ++ intRow xs) : (Acc.mk S b2 c2 R2).Ok intRow 1 ∧ S.length = n + 1 + m := by
  have e : S.length = n + 1 + m := by rw [← hX, List.length_append, List.length_cons, hT, hxs]; omega
  refine ⟨⟨by simp only [e]; exact p2, p3, p4, ?_⟩, e⟩
  simp only [e]
  rw [p5, ← hX, intRow_append]
  simp [intRow]
theorem refSort_spec (l : List Ke) (hl : l.length ≤ 100000) (L : List Ky) (hL : L.length < 20) (hw : ∀ x ∈ L, Ky.Wide x) (st : Store) : Rets P F.podiumref21_Sort [Ke.lst l, Ky.lst L] st (.tuple [intLst false (sortA l L), .int (sortE l L)]) := by
  have cp := plain21_spec l (by omega)
  have cR := fun x hx => right21_spec l (by omega) x (hw x hx)
  clear hw
  cases h0 : plainK l with
  | false =>
    have e : sortE l L = 210 := by unfold sortE; rw [h0]; rfl
    have e2 : sortA l L = [] := by unfold sortA; rw [e]; rfl
    rw [e, e2]
    rw [h0] at cp
    clear cR h0 e e2
    refine H.podiumref21_Sort.view hmix rfl rfl ?_
    repeat' (first 
     | (with_reducible refine Rets.xcall (cp _) ?_)
     | (simp -dsimp -implicitDefEqProofs [*]))
    exact .sees (.tuple2l (.nil0 _)) (RetView.drop (st' := st) (by repeat' (first | exact StLe.refl _ | (refine StLe_cons (by simp [*]; done) ?_) | (refine StLe_fresh (by simp [*]; done) ?_))) ⟨rfl, rfl⟩)
  | true =>
    have ho : okKeys l = l := by
      unfold plainK at h0
      simp only [Bool.and_eq_true, decide_eq_true_eq] at h0
      exact okKeys_len.1 h0.1
    rw [h0] at cp
    have kE : Hid (sortE l L = if (!L.any (wrongK l)) = true then 0 else 210) := ⟨by unfold sortE; rw [h0, ho]; rfl⟩
    have kA : Hid (sortA l L = if sortE l L = 0 then srt (keyI l L) (idxs L.length) else []) := ⟨by unfold sortA; rw [ho]⟩
    have kK : Hid (Keys l) := ⟨by rw [← ho]; exact okKeys_keys l⟩
    obtain ⟨E, hE⟩ : ∃ E, E = sortE l L := ⟨_, rfl⟩
    obtain ⟨A, hA⟩ : ∃ E, E = sortA l L := ⟨_, rfl⟩
    rw [← hE] at kE kA ⊢
    rw [← hA] at kA ⊢
    clear h0 ho hE hA
    refine H.podiumref21_Sort.view hmix rfl rfl ?_
    repeat' (first 
     | (with_reducible refine Rets.xcall (cp _) ?_)
     | (simp -dsimp -implicitDefEqProofs [*]))
    refine xloop_for (fun n : Nat => [(0, Ke.lst l), (1, Ky.lst L), (6, .int n)]) (fun _ => st) (fun n => n ≤ L.length ∧ Hid (∀ j (h : j < L.length), j < n → wrongK l L[j] = false)) (fun n => L.length - n) 0 ⟨Nat.zero_le _, ⟨fun j _ h => absurd h (by omega)⟩⟩ (by simp) (.refl _) ?_
    rintro n ⟨hn, hI⟩
    clear cp
    by_cases hnl : n < L.length
    · have ww := wrap_succ (n := n) (by omega)
      have h4 : n * 10 < L.length * 10 := by omega
      have cR := cR L[n] (List.getElem_mem hnl)
      have kb : Hid (wrongK l L[n] = true → E = 210 ∧ A = []) := ⟨fun h => by
        have h1 : L.any (wrongK l) = true := List.any_eq_true.2 ⟨_, List.getElem_mem hnl, h⟩
        have h2 : E = 210 := by rw [kE.out, h1]; rfl
        refine ⟨h2, by rw [kA.out, h2]; rfl⟩⟩
      have kN : Hid (wrongK l L[n] = false → ∀ j (h : j < L.length), j < n + 1 → wrongK l L[j] = false) := ⟨fun hp j hj hl => if h : j = n then by subst h; exact hp else hI.out j hj (by omega)⟩
      have g1 := Ky.row_sub L n hnl
      obtain ⟨x, hx⟩ : ∃ x, x = L[n] := ⟨_, rfl⟩
      rw [← hx] at kb kN g1 cR
      clear kE kA kK hI hx
      cases hg : wrongK l x with
      | true =>
        obtain ⟨e1, e2⟩ := kb.out hg
        subst e1; subst e2
        rw [hg] at cR
        clear kb kN hg
        repeat' (first 
         | (with_reducible refine Rets.xcall (cR _) ?_)
         | (simp -dsimp -implicitDefEqProofs [-Ky.row_sub, *]))
        exact .sees (.tuple2l (.nil0 _)) (RetView.drop (st' := st) (by repeat' (first | exact StLe.refl _ | (refine StLe_cons (by simp [*]; done) ?_) | (refine StLe_fresh (by simp [*]; done) ?_))) ⟨rfl, rfl⟩)
      | false =>
        have e : Hid _ := ⟨kN.out hg⟩
        rw [hg] at cR
        clear kb kN hg
        repeat' (first 
         | (with_reducible refine Rets.xcall (cR _) ?_)
         | (simp -dsimp -implicitDefEqProofs [-Ky.row_sub, *]))
        exact Next.intro (n + 1) ⟨by omega, e⟩ (by omega) (by simp) (by repeat' (first | exact StLe.refl _ | (refine StLe_cons (by simp [*]; done) ?_) | (refine StLe_fresh (by simp [*]; done) ?_)))
    · have e : n = L.length := by omega
      subst e
      have hall : Hid (∀ x ∈ L, wrongK l x = false) := ⟨fun x hx => by
        obtain ⟨j, hj, rfl⟩ := List.mem_iff_getElem.1 hx
        exact hI.out j hj hj⟩
      have hany : L.any (wrongK l) = false := List.any_eq_false.2 fun x hx => by rw [hall.out x hx]; simp
      have e1 : E = 0 := by rw [kE.out, hany]; rfl
      have e2 : A = srt (keyI l L) (idxs L.length) := by rw [kA.out, e1]; rfl
      subst e1
      have cF : Hid (∀ i k (hi : i < L.length) (hk : k < L.length), ∀ st, Rets P F.podiumref21_first [Ke.lst l, L[i].pv, L[k].pv] st (.tuple [.int (lexc (vec l L[i]) (vec l L[k]) 0).1, .int (lexc (vec l L[i]) (vec l L[k]) 0).2])) :=
        ⟨fun i k hi hk st => first21_spec l kK.out hl L[i] L[k] (hall.out _ (List.getElem_mem hi)) (hall.out _ (List.getElem_mem hk)) st⟩
      have kc : Hid (∀ i k (hi : i < L.length) (hk : k < L.length), (if (lexc (vec l L[i]) (vec l L[k]) 0).1 = 0 then cmpZ L[i].entry L[k].entry else (lexc (vec l L[i]) (vec l L[k]) 0).1) = cmpZ (keyI l L i) (keyI l L k)) := ⟨fun i k hi hk => by rw [← vec2_lexc, keyI_cmp l L i k hi hk]⟩
      obtain ⟨key, hkey⟩ : ∃ k, k = keyI l L := ⟨_, rfl⟩
      rw [← hkey] at e2 kc
      have kA2 : Hid _ := ⟨e2⟩
      have n2 : ¬ (4096 : Int) < L.length := by omega
      clear e2 hkey hany hall kE kA kK hI cR
      repeat' (first 
       | (with_reducible refine Lit.own (cs := []) (len := 0) fun b hb => ?_) <;> (try simp -dsimp -implicitDefEqProofs [*] at hb)
       | (simp -dsimp -implicitDefEqProofs [-xappend_list, *]))
      have hnA : (Acc.mk ([] : List Int) b 0 []).Ok intRow 1 := .nil rfl b
      refine xloop_for (fun y : Nat × Acc Int => [(0, Ke.lst l), (1, Ky.lst L), (7, .own y.2.b 0 y.2.l.length y.2.cap), (8, .int y.1)]) (fun y => (y.2.b, .arr T.int y.2.R) :: st) (fun y => y.1 ≤ L.length ∧ y.2.Ok intRow 1 ∧ snew st y.2.b ∧ Hid (y.2.l = srt key (idxs y.1))) (fun y => L.length - y.1) (0, ⟨[], b, 0, []⟩) ⟨Nat.zero_le _, hnA, hb, ⟨rfl⟩⟩ (by simp) (by simp) ?_
      clear hnA hb
      rintro ⟨i, a⟩ ⟨hi, ha, hab, hal⟩
      simp only at hi ha hab hal
      by_cases hil : i < L.length
      case neg =>
        have e : i = L.length := by omega
        have eA : A = a.l := by rw [kA2.out, hal.out, e]
        have kk : Hid _ := ⟨ha⟩
        have kA3 : Hid _ := ⟨eA⟩
        have hii : ¬ (i : Int) < L.length := by omega
        clear cF kc kA2 hal ha eA
        subst e
        repeat' (simp -dsimp -implicitDefEqProofs [*])
        refine .freeze (.tuple [intLst false A, .int 0]) hab (.tuple (.cons ?_ (.cons (.refl _) .nil))) (.same ⟨rfl, rfl⟩)
        rw [kA3.out]
        exact Frz.acc kk.out
      have wi := wrap_succ (n := i) (by omega)
      have hli : a.l.length = i := by rw [hal.out, srt_length, idxs_len]
      have hcap := ha.cap
      have hle := ha.le
      have hRl : a.R.length = a.cap := by have := ha.len; omega
      have kRow : Hid (a.R.take a.l.length = intRow a.l) := ⟨by have := ha.row; rwa [Nat.mul_one] at this⟩
      have kOk : Hid (a.Ok intRow 1) := ⟨ha⟩
      have hRc : a.R.length = a.cap * 1 := by omega
      rw [hli] at hle kRow
      clear ha
      repeat' (simp -dsimp -implicitDefEqProofs [*])
      refine xloop_for (fun n : Nat => [(0, Ke.lst l), (1, Ky.lst L), (7, .own a.b 0 i a.cap), (8, .int i), (9, .int n)]) (fun _ => (a.b, .arr T.int a.R) :: st) (fun n => n ≤ i ∧ Hid (∀ j (h : j < a.l.length), j < n → key a.l[j] ≤ key i)) (fun n => i - n) 0 ⟨Nat.zero_le _, ⟨fun j _ h => absurd h (by omega)⟩⟩ (by simp [hli]) (.refl _) ?_
      rintro n ⟨hn2, hI⟩
      have wn := wrap_succ (n := n) (by omega)
      have kli : Hid _ := ⟨hli⟩
      by_cases hnl2 : n < i
      · have hlk : n < a.l.length := by omega
        obtain ⟨k, hkL0, hk⟩ := mem_srtI (key := key) (n := i) (x := a.l[n]) (by rw [← hal.out]; exact List.getElem_mem hlk)
        have hkL : k < L.length := by omega
        have cc := cF.out k i hkL hil
        have cz := kc.out k i hkL hil
        have g0 : ∀ h, a.R[n]'h = .int k := fun h => by
          have h1 : (a.R.take i)[n]? = some (.int a.l[n]) := by rw [kRow.out]; exact intRow_get a.l n hlk
          rw [List.getElem?_take, if_pos hnl2, List.getElem?_eq_getElem h, hk] at h1
          exact Option.some.inj h1
        have hnR : n < a.R.length := by omega
        have hnR2 : n < a.cap := by omega
        have q1 := Ky.row_sub L k hkL
        have q2 := Ky.row_sub L i hil
        have q3 := Ky.row_get0 L k hkL
        have q4 := Ky.row_get0 L i hil
        have q5 : ∀ h, (Ky.row L)[k * 10]'h = .int L[k].entry := fun h => by
          rw [List.getElem?_eq_getElem h] at q3
          exact Option.some.inj q3
        have q6 : ∀ h, (Ky.row L)[i * 10]'h = .int L[i].entry := fun h => by
          rw [List.getElem?_eq_getElem h] at q4
          exact Option.some.inj q4
        have k10 : k * 10 < L.length * 10 := by omega
        have i10 : i * 10 < L.length * 10 := by omega
        have hkLi : (k : Int) < L.length := by omega
        have hX : Hid (key i < key k → a.l.take n ++ (i : Int) :: a.l.drop n = srt key (idxs (i + 1))) := ⟨fun hlt => srt_put hal.out (by omega) (fun j h h' => hI.out j h h') (fun h => by rw [hk]; exact hlt)⟩
        have kN : Hid (key k ≤ key i → ∀ j (h : j < a.l.length), j < n + 1 → key a.l[j] ≤ key i) := ⟨fun hle j h h' => if e : j = n then by subst e; rw [hk]; exact hle else hI.out j h (by omega)⟩
        obtain ⟨r, hr⟩ : ∃ r, r = lexc (vec l L[k]) (vec l L[i]) 0 := ⟨_, rfl⟩
        rw [← hr] at cc cz
        obtain ⟨x, hx⟩ : ∃ x, x = L[k] := ⟨_, rfl⟩
        obtain ⟨y, hy⟩ : ∃ x, x = L[i] := ⟨_, rfl⟩
        rw [← hx] at cc cz q1 q5
        rw [← hy] at cc cz q2 q6
        clear hr hx hy q3 q4 hk hkL0 kOk
        by_cases hgt : 0 < r.1
        · have hlt : key i < key k := by
            rw [if_neg (by omega)] at cz
            unfold cmpZ at cz
            split at cz <;> (try split at cz) <;> omega
          have hX : Hid _ := ⟨hX.out hlt⟩
          clear kN cz hlt
          clear hI cF kc
          have lxs : (a.l.drop n).length = i - n := by rw [List.length_drop, hli]
          have eTk : a.R.take (n * 1) = intRow (a.l.take n) := by
            rw [Nat.mul_one, ← intRow_take, ← kRow.out, List.take_take, Nat.min_eq_left hn2]
          have lTk : (a.l.take n).length = n := by rw [List.length_take, hli]; exact Nat.min_eq_left hn2
          have eDr : List.take (i - n) (List.drop n a.R) = intRow (a.l.drop n) := by
            rw [← intRow_drop, ← kRow.out, List.drop_take]
          obtain ⟨xs, hxs⟩ : ∃ xs, xs = a.l.drop n := ⟨_, rfl⟩
          obtain ⟨Tk, hTk⟩ : ∃ xs, xs = a.l.take n := ⟨_, rfl⟩
          rw [← hxs] at lxs eDr hX
          rw [← hTk] at lTk eTk hX
          have kxs : Hid (intRow xs = List.take (i - n) (List.drop n a.R) ∧ xs.length = i - n) := ⟨eDr.symm, lxs⟩
          have kT : Hid _ := ⟨lTk⟩
          have hil2 : i < 20 := by omega
          clear hxs lxs eDr hTk lTk
          have hcn : n < a.cap := by omega
          repeat' (first 
           | (with_reducible refine Rets.xcall (cc _) ?_)
           | (with_reducible refine Lit.imm ?_)
           | (with_reducible refine DrawLate.intro [] ?_)
           | (with_reducible refine And.intro (fun h => ?_) ?_) <;> (try (exfalso; omega))
           | (simp -dsimp -implicitDefEqProofs [-Ky.row_sub, -Ky.row_get0, -intRow_getE, -xappend_list, *]))
          refine xappend_immT (T := T.int) (row := intRow) (st := (a.b, .arr T.int a.R) :: st) intRow_len intRow_append none trivial xs kxs.out.1 kxs.out.2 (by simp; omega) fun t => ?_
          simp only [accL_none, List.nil_append]
          repeat' (first 
           | (with_reducible refine Lit.imm ?_)
           | ((with_reducible refine and_keep ?_ fun hk => ?_); omega)
           | (simp -dsimp -implicitDefEqProofs [-xappend_list, *]))
          refine xappend_row a.R (by simp) hRc eTk (by omega) hcap rfl (by omega) fun b1 c1 R1 q1 q2 q3 q4 q5 => ?_
          simp -dsimp -implicitDefEqProofs [*] at q1
          repeat' (simp -dsimp -implicitDefEqProofs [-xappend_list, *])
          refine xappend_row R1 (by simp) q4 q5 q2 q3 (intRow_len xs) (by have := kxs.out.2; omega) fun b2 c2 R2 p1 p2 p3 p4 p5 => ?_
          simp -dsimp -implicitDefEqProofs [*] at p1
          obtain ⟨o1, o2⟩ := put_ok (b2 := b2) hX.out kT.out rfl p2 p3 p4 p5
          have o3 : (srt key (idxs (i + 1))).length = i + 1 := by rw [srt_length, idxs_len]
          have kO : Hid _ := ⟨o1⟩
          have kL : Hid _ := ⟨o3⟩
          have kS : Hid _ := ⟨o3.symm.trans o2⟩
          clear o1 o2 o3
          repeat' (simp -dsimp -implicitDefEqProofs [-xappend_list, *])
          exact Next.intro (i + 1, ⟨srt key (idxs (i + 1)), b2, c2, R2⟩) ⟨by simp only; omega, kO.out, p1, ⟨rfl⟩⟩ (by simp only; omega) (by simp [kL.out]; have := kS.out; omega) (by repeat' (first | exact StLe.refl _ | (refine StLe_cons (by simp [*]; done) ?_) | (refine StLe_fresh (by simp [*]; done) ?_)))
        · by_cases h0 : r.1 = 0
          · rw [if_pos h0] at cz
            by_cases hent : y.entry < x.entry
            · have hlt : key i < key k := by
                unfold cmpZ at cz
                rw [if_neg (by omega), if_pos hent] at cz
                split at cz <;> (try split at cz) <;> omega
              have hX : Hid _ := ⟨hX.out hlt⟩
              clear kN cz hlt
              clear hI cF kc
              have lxs : (a.l.drop n).length = i - n := by rw [List.length_drop, hli]
              have eTk : a.R.take (n * 1) = intRow (a.l.take n) := by
                rw [Nat.mul_one, ← intRow_take, ← kRow.out, List.take_take, Nat.min_eq_left hn2]
              have lTk : (a.l.take n).length = n := by rw [List.length_take, hli]; exact Nat.min_eq_left hn2
              have eDr : List.take (i - n) (List.drop n a.R) = intRow (a.l.drop n) := by
                rw [← intRow_drop, ← kRow.out, List.drop_take]
              obtain ⟨xs, hxs⟩ : ∃ xs, xs = a.l.drop n := ⟨_, rfl⟩
              obtain ⟨Tk, hTk⟩ : ∃ xs, xs = a.l.take n := ⟨_, rfl⟩
              rw [← hxs] at lxs eDr hX
              rw [← hTk] at lTk eTk hX
              have kxs : Hid (intRow xs = List.take (i - n) (List.drop n a.R) ∧ xs.length = i - n) := ⟨eDr.symm, lxs⟩
              have kT : Hid _ := ⟨lTk⟩
              have hil2 : i < 20 := by omega
              clear hxs lxs eDr hTk lTk
              have hcn : n < a.cap := by omega
              repeat' (first 
               | (with_reducible refine Rets.xcall (cc _) ?_)
               | (with_reducible refine Lit.imm ?_)
               | (with_reducible refine DrawLate.intro [] ?_)
               | (with_reducible refine And.intro (fun h => ?_) ?_) <;> (try (exfalso; omega))
               | (simp -dsimp -implicitDefEqProofs [-Ky.row_sub, -Ky.row_get0, -intRow_getE, -xappend_list, *]))
              refine xappend_immT (T := T.int) (row := intRow) (st := (a.b, .arr T.int a.R) :: st) intRow_len intRow_append none trivial xs kxs.out.1 kxs.out.2 (by simp; omega) fun t => ?_
              simp only [accL_none, List.nil_append]
              repeat' (first 
               | (with_reducible refine Lit.imm ?_)
               | ((with_reducible refine and_keep ?_ fun hk => ?_); omega)
               | (simp -dsimp -implicitDefEqProofs [-xappend_list, *]))
              refine xappend_row a.R (by simp) hRc eTk (by omega) hcap rfl (by omega) fun b1 c1 R1 q1 q2 q3 q4 q5 => ?_
              simp -dsimp -implicitDefEqProofs [*] at q1
              repeat' (simp -dsimp -implicitDefEqProofs [-xappend_list, *])
              refine xappend_row R1 (by simp) q4 q5 q2 q3 (intRow_len xs) (by have := kxs.out.2; omega) fun b2 c2 R2 p1 p2 p3 p4 p5 => ?_
              simp -dsimp -implicitDefEqProofs [*] at p1
              obtain ⟨o1, o2⟩ := put_ok (b2 := b2) hX.out kT.out rfl p2 p3 p4 p5
              have o3 : (srt key (idxs (i + 1))).length = i + 1 := by rw [srt_length, idxs_len]
              have kO : Hid _ := ⟨o1⟩
              have kL : Hid _ := ⟨o3⟩
              have kS : Hid _ := ⟨o3.symm.trans o2⟩
              clear o1 o2 o3
              repeat' (simp -dsimp -implicitDefEqProofs [-xappend_list, *])
              exact Next.intro (i + 1, ⟨srt key (idxs (i + 1)), b2, c2, R2⟩) ⟨by simp only; omega, kO.out, p1, ⟨rfl⟩⟩ (by simp only; omega) (by simp [kL.out]; have := kS.out; omega) (by repeat' (first | exact StLe.refl _ | (refine StLe_cons (by simp [*]; done) ?_) | (refine StLe_fresh (by simp [*]; done) ?_)))
            · have hle2 : key k ≤ key i := by
                unfold cmpZ at cz
                rw [if_neg hent] at cz
                split at cz <;> (try split at cz) <;> omega
              have e : Hid _ := ⟨kN.out hle2⟩
              clear kN cz hle2 hX hI
              repeat' (first 
               | (with_reducible refine Rets.xcall (cc _) ?_)
               | (with_reducible refine DrawLate.intro [] ?_)
               | (simp -dsimp -implicitDefEqProofs [-Ky.row_sub, -Ky.row_get0, -intRow_getE, *]))
              exact Next.intro (n + 1) ⟨by omega, e⟩ (by omega) (by simp) (by repeat' (first | exact StLe.refl _ | (refine StLe_cons (by simp [*]; done) ?_) | (refine StLe_fresh (by simp [*]; done) ?_)))
          · have hle2 : key k ≤ key i := by
              rw [if_neg h0] at cz
              unfold cmpZ at cz
              split at cz <;> (try split at cz) <;> omega
            have e : Hid _ := ⟨kN.out hle2⟩
            clear kN cz hle2 hX hI
            repeat' (first 
             | (with_reducible refine Rets.xcall (cc _) ?_)
             | (with_reducible refine DrawLate.intro [] ?_)
             | (simp -dsimp -implicitDefEqProofs [-Ky.row_sub, -Ky.row_get0, -intRow_getE, *]))
            exact Next.intro (n + 1) ⟨by omega, e⟩ (by omega) (by simp) (by repeat' (first | exact StLe.refl _ | (refine StLe_cons (by simp [*]; done) ?_) | (refine StLe_fresh (by simp [*]; done) ?_)))
      · have hX : Hid (a.l.take n ++ (i : Int) :: a.l.drop n = srt key (idxs (i + 1))) := ⟨srt_put hal.out (by omega) (fun j h h' => hI.out j h h') (fun h => absurd h (by omega))⟩
        clear hI cF kc
        have lxs : (a.l.drop n).length = i - n := by rw [List.length_drop, hli]
        have eTk : a.R.take (n * 1) = intRow (a.l.take n) := by
          rw [Nat.mul_one, ← intRow_take, ← kRow.out, List.take_take, Nat.min_eq_left hn2]
        have lTk : (a.l.take n).length = n := by rw [List.length_take, hli]; exact Nat.min_eq_left hn2
        have eDr : List.take (i - n) (List.drop n a.R) = intRow (a.l.drop n) := by
          rw [← intRow_drop, ← kRow.out, List.drop_take]
        obtain ⟨xs, hxs⟩ : ∃ xs, xs = a.l.drop n := ⟨_, rfl⟩
        obtain ⟨Tk, hTk⟩ : ∃ xs, xs = a.l.take n := ⟨_, rfl⟩
        rw [← hxs] at lxs eDr hX
        rw [← hTk] at lTk eTk hX
        have kxs : Hid (intRow xs = List.take (i - n) (List.drop n a.R) ∧ xs.length = i - n) := ⟨eDr.symm, lxs⟩
        have kT : Hid _ := ⟨lTk⟩
        have hil2 : i < 20 := by omega
        clear hxs lxs eDr hTk lTk
        by_cases hnc : n = a.cap
        · have e0 : i - n = 0 := by omega
          have ei : i = n := by omega
          have ex : xs = [] := List.length_eq_zero_iff.1 (by rw [kxs.out.2, e0])
          subst ex
          subst ei
          clear kxs
          have hcn : a.cap = i := hnc.symm
          clear hnc
          repeat' (first 
           | (with_reducible refine Lit.imm ?_)
           | (simp -dsimp -implicitDefEqProofs [-xappend_list, *]))
          refine xappend_immT (T := T.int) (row := intRow) (st := (a.b, .arr T.int a.R) :: st) intRow_len intRow_append none trivial [] rfl rfl (by simp) fun t => ?_
          repeat' (first 
           | (with_reducible refine Lit.imm ?_)
           | (simp -dsimp -implicitDefEqProofs [-xappend_list, *]))
          refine xappend_row a.R (by simp) (by rw [← hcn]; exact hRc) eTk (Nat.le_refl _) (by omega) rfl (by omega) fun b1 c1 R1 q1 q2 q3 q4 q5 => ?_
          simp -dsimp -implicitDefEqProofs [*] at q1
          repeat' (simp -dsimp -implicitDefEqProofs [-xappend_list, *])
          refine xappend_row R1 (by simp) q4 q5 q2 q3 rfl (by omega) fun b2 c2 R2 p1 p2 p3 p4 p5 => ?_
          simp -dsimp -implicitDefEqProofs [*] at p1
          obtain ⟨o1, o2⟩ := put_ok (b2 := b2) hX.out kT.out (xs := []) (m := 0) rfl p2 p3 p4 p5
          have kO : Hid _ := ⟨o1⟩
          have kL : Hid _ := ⟨o2⟩
          clear o1 o2
          repeat' (simp -dsimp -implicitDefEqProofs [-xappend_list, *])
          exact Next.intro (i + 1, ⟨srt key (idxs (i + 1)), b2, c2, R2⟩) ⟨by simp only; omega, kO.out, p1, ⟨rfl⟩⟩ (by simp only; omega) (by simp [kL.out]) (by repeat' (first | exact StLe.refl _ | (refine StLe_cons (by simp [*]; done) ?_) | (refine StLe_fresh (by simp [*]; done) ?_)))
        · have hcn : n < a.cap := by omega
          repeat' (first 
           | (with_reducible refine Lit.imm ?_)
           | (with_reducible refine And.intro (fun h => ?_) ?_) <;> (try (exfalso; omega))
           | (simp -dsimp -implicitDefEqProofs [-xappend_list, *]))
          refine xappend_immT (T := T.int) (row := intRow) (st := (a.b, .arr T.int a.R) :: st) intRow_len intRow_append none trivial xs kxs.out.1 kxs.out.2 (by simp; omega) fun t => ?_
          simp only [accL_none, List.nil_append]
          repeat' (first 
           | (with_reducible refine Lit.imm ?_)
           | ((with_reducible refine and_keep ?_ fun hk => ?_); omega)
           | (simp -dsimp -implicitDefEqProofs [-xappend_list, *]))
          refine xappend_row a.R (by simp) hRc eTk (by omega) hcap rfl (by omega) fun b1 c1 R1 q1 q2 q3 q4 q5 => ?_
          simp -dsimp -implicitDefEqProofs [*] at q1
          repeat' (simp -dsimp -implicitDefEqProofs [-xappend_list, *])
          refine xappend_row R1 (by simp) q4 q5 q2 q3 (intRow_len xs) (by have := kxs.out.2; omega) fun b2 c2 R2 p1 p2 p3 p4 p5 => ?_
          simp -dsimp -implicitDefEqProofs [*] at p1
          obtain ⟨o1, o2⟩ := put_ok (b2 := b2) hX.out kT.out rfl p2 p3 p4 p5
          have o3 : (srt key (idxs (i + 1))).length = i + 1 := by rw [srt_length, idxs_len]
          have kO : Hid _ := ⟨o1⟩
          have kL : Hid _ := ⟨o3⟩
          have kS : Hid _ := ⟨o3.symm.trans o2⟩
          clear o1 o2 o3
          repeat' (simp -dsimp -implicitDefEqProofs [-xappend_list, *])
          exact Next.intro (i + 1, ⟨srt key (idxs (i + 1)), b2, c2, R2⟩) ⟨by simp only; omega, kO.out, p1, ⟨rfl⟩⟩ (by simp only; omega) (by simp [kL.out]; have := kS.out; omega) (by repeat' (first | exact StLe.refl _ | (refine StLe_cons (by simp [*]; done) ?_) | (refine StLe_fresh (by simp [*]; done) ?_)))
end Go.Proofs.YtliglilanpfjhaaGreat
/- Sort matches the specification. -/
namespace Go.Proofs.YtliglilanpfjhaaGreat
open Go.Pv
set_option maxRecDepth 100000
set_option maxHeartbeats 8000000
theorem sortSpec_law (l : List Ke) (L : List Ky) (st : Store) : Rets P F.podiumlaw21_TiesSortSpec [Ke.lst l, Ky.lst L] st (.bool true) := by
  have cs := sane_spec
  have cf := few21K_spec l false L
  refine H.podiumlaw21_TiesSortSpec.view hmix rfl rfl ?_
  cases h : fewK l L with
  | false =>
    rw [h] at cf
    repeat' (first 
     | (with_reducible refine Rets.xcall (cs _) ?_)
     | (with_reducible refine Rets.xcall (cf _) ?_)
     | (simp -dsimp -implicitDefEqProofs [*]))
    exact RetView.drop (st' := st) (by repeat' (first | exact StLe.refl _ | (refine StLe_cons (by simp [*]; done) ?_) | (refine StLe_fresh (by simp [*]; done) ?_))) ⟨rfl, rfl⟩
  | true =>
    rw [h] at cf
    obtain ⟨h1, h2, h3⟩ := fewK_lens h
    have c1 := sortT_spec l (by omega) L (by omega) h3
    have c2 := refSort_spec l (by omega) L (by omega) fun x hx => (h3 x hx).wide
    have hlen : (sortA l L).length ≤ 9223372036854775807 := by
      unfold sortA
      split
      · rw [srt_length, idxs_len]; omega
      · simp
    have c3 := sameInts_spec false false (sortA l L) (sortA l L) hlen
    rw [decide_eq_true rfl] at c3
    obtain ⟨A, hA⟩ : ∃ r, r = sortA l L := ⟨_, rfl⟩
    obtain ⟨e, he⟩ : ∃ r, r = sortE l L := ⟨_, rfl⟩
    rw [← hA, ← he] at c1 c2
    rw [← hA] at c3
    clear hA he h3 h2 h1 h hlen
    repeat' (first 
     | (with_reducible refine Rets.xcall (cs _) ?_)
     | (with_reducible refine Rets.xcall (cf _) ?_)
     | (with_reducible refine Rets.xcall (c1 _) ?_)
     | (with_reducible refine Rets.xcall (c2 _) ?_)
     | (with_reducible refine Rets.xcall (c3 _) ?_)
     | (simp -dsimp -implicitDefEqProofs [*]))
    exact RetView.drop (st' := st) (by repeat' (first | exact StLe.refl _ | (refine StLe_cons (by simp [*]; done) ?_) | (refine StLe_fresh (by simp [*]; done) ?_))) ⟨rfl, rfl⟩
end Go.Proofs.YtliglilanpfjhaaGreat
