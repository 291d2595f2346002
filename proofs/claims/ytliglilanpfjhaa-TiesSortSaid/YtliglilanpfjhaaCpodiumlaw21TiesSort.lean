/- The code of one function. -/
import Derived.Test.YtliglilanpfjhaaCode
import Derived.Test.YtliglilanpfjhaaCpodiumlaw21TiesOrder
set_option maxRecDepth 100000
namespace Go.Proofs.Ytliglilanpfjhaa
open Go.Pv
/-- podium/podiumlaw21.TiesSort -/
noncomputable def C.podiumlaw21_TiesSort : MFunc := ⟨125, 2, [.tmp 4],
  (.seq (.region [
    ⟨(some 4), none, .val (.mv (.const (.bool false)))⟩] [])
  (.seq (.seq (.region [
    ⟨(some 14), none, .call (.const (.func (.func F.podiumlaw21_sane) [] [])) []⟩,
    ⟨(some 15), none, .val (.un .not (.tmp 14))⟩] [14])
  (.cond (.tmp 15)
  (.seq (.region [
    ⟨(some 4), none, .val (.mv (.const (.bool false)))⟩] [])
  .ret)
  .skip))
  (.seq (.seq (.region [
    ⟨(some 16), none, .val (.mv (.tmp 0))⟩,
    ⟨(some 17), none, .val (.mv (.tmp 1))⟩,
    ⟨(some 18), none, .call (.const (.func (.func F.podiumlaw21_right) [] [])) [(.tmp 16), (.tmp 17)]⟩,
    ⟨(some 19), none, .val (.un .not (.tmp 18))⟩] [16, 17, 18])
  (.cond (.tmp 19)
  (.seq (.region [
    ⟨(some 4), none, .val (.mv (.const (.bool true)))⟩] [])
  .ret)
  .skip))
  (.seq (.region [
    ⟨(some 21), none, .val (.mv (.tmp 0))⟩,
    ⟨(some 22), none, .val (.mv (.tmp 1))⟩,
    ⟨(some 23), none, .call (.const (.func (.func F.ties_Sort) [] [])) [(.tmp 21), (.tmp 22)]⟩,
    ⟨(some 20), none, .val (.mv (.tmp 23))⟩,
    ⟨(some 24), none, .val (.extract 0 (.tmp 20))⟩,
    ⟨(some 25), none, .val (.extract 1 (.tmp 20))⟩,
    ⟨(some 5), none, .val (.mv (.tmp 24))⟩,
    ⟨(some 6), none, .val (.mv (.tmp 25))⟩] [21, 22, 23, 20, 24, 25])
  (.seq (.seq (.region [
    ⟨(some 26), none, .val (.mv (.tmp 6))⟩,
    ⟨(some 27), none, .val (.bin .neq T.apiErrno (.tmp 26) (.const (.int 0)))⟩,
    ⟨(some 28), none, .val (.mv (.tmp 27))⟩,
    ⟨(some 29), (some (28, false)), .val (.mv (.tmp 5))⟩,
    ⟨(some 30), (some (28, false)), .val (.len (.tmp 29))⟩,
    ⟨(some 31), (some (28, false)), .val (.mv (.tmp 1))⟩,
    ⟨(some 32), (some (28, false)), .val (.len (.tmp 31))⟩,
    ⟨(some 33), (some (28, false)), .val (.bin .neq T.int (.tmp 30) (.tmp 32))⟩,
    ⟨(some 34), none, .val (.pick (.tmp 28) (.const (.bool true)) (.tmp 33))⟩] [26, 27, 28, 29, 30, 31, 32, 33])
  (.cond (.tmp 34)
  (.seq (.region [
    ⟨(some 4), none, .val (.mv (.const (.bool false)))⟩] [])
  .ret)
  .skip))
  (.seq (.region [
    ⟨(some 35), none, .val (.mv (.tmp 1))⟩,
    ⟨(some 36), none, .val (.len (.tmp 35))⟩,
    ⟨(some 37), none, .mkSlice T.bool 1 1 [(.bool false)] (.tmp 36) (.tmp 36)⟩,
    ⟨(some 7), none, .val (.mv (.tmp 37))⟩] [35, 36, 37])
  (.seq (.seq (.region [
    ⟨(some 38), none, .val (.mv (.tmp 5))⟩,
    ⟨(some 39), none, .val (.len (.tmp 38))⟩,
    ⟨(some 40), none, .val (.mv (.const (.int 0)))⟩] [])
  (.block 0 (.loop (.seq (.region [
    ⟨(some 41), none, .val (.bin .lss T.int (.tmp 40) (.tmp 39))⟩] [])
  (.seq (.cond (.tmp 41)
  .skip
  (.exit 0))
  (.seq (.block 1 (.seq (.region [
    ⟨(some 42), none, .val (.mv (.tmp 40))⟩,
    ⟨(some 43), none, .val (.indexAddr 1 (.tmp 38) (.tmp 40))⟩,
    ⟨(some 44), none, .val (.load 1 false (.tmp 43))⟩,
    ⟨(some 8), none, .val (.mv (.tmp 42))⟩,
    ⟨(some 9), none, .val (.mv (.tmp 44))⟩] [42, 43, 44])
  (.seq (.seq (.region [
    ⟨(some 45), none, .val (.mv (.tmp 9))⟩,
    ⟨(some 46), none, .val (.bin .lss T.int (.tmp 45) (.const (.int 0)))⟩,
    ⟨(some 47), none, .val (.mv (.tmp 46))⟩,
    ⟨(some 48), (some (47, false)), .val (.mv (.tmp 9))⟩,
    ⟨(some 49), (some (47, false)), .val (.mv (.tmp 1))⟩,
    ⟨(some 50), (some (47, false)), .val (.len (.tmp 49))⟩,
    ⟨(some 51), (some (47, false)), .val (.bin .geq T.int (.tmp 48) (.tmp 50))⟩,
    ⟨(some 52), none, .val (.pick (.tmp 47) (.const (.bool true)) (.tmp 51))⟩,
    ⟨(some 53), none, .val (.mv (.tmp 52))⟩,
    ⟨(some 54), (some (53, false)), .val (.mv (.tmp 7))⟩,
    ⟨(some 55), (some (53, false)), .val (.mv (.tmp 9))⟩,
    ⟨(some 56), (some (53, false)), .val (.indexAddr 1 (.tmp 54) (.tmp 55))⟩,
    ⟨(some 57), (some (53, false)), .val (.load 1 false (.tmp 56))⟩,
    ⟨(some 58), none, .val (.pick (.tmp 53) (.const (.bool true)) (.tmp 57))⟩] [45, 46, 47, 48, 49, 50, 51, 52, 53, 54, 55, 56, 57])
  (.cond (.tmp 58)
  (.seq (.region [
    ⟨(some 4), none, .val (.mv (.const (.bool false)))⟩] [])
  .ret)
  .skip))
  (.seq (.region [
    ⟨(some 59), none, .val (.mv (.tmp 7))⟩,
    ⟨(some 60), none, .val (.mv (.tmp 9))⟩,
    ⟨(some 61), none, .val (.indexAddr 1 (.tmp 59) (.tmp 60))⟩,
    ⟨none, none, .store 1 (.tmp 61) (.const (.bool true))⟩] [59, 60, 61])
  (.seq (.seq (.region [
    ⟨(some 62), none, .val (.mv (.tmp 8))⟩,
    ⟨(some 63), none, .val (.bin .eql T.int (.tmp 62) (.const (.int 0)))⟩] [62])
  (.cond (.tmp 63)
  (.exit 1)
  .skip))
  (.seq (.region [
    ⟨(some 64), none, .val (.mv (.tmp 5))⟩,
    ⟨(some 65), none, .val (.mv (.tmp 8))⟩,
    ⟨(some 66), none, .val (.bin .sub T.int (.tmp 65) (.const (.int 1)))⟩,
    ⟨(some 67), none, .val (.indexAddr 1 (.tmp 64) (.tmp 66))⟩,
    ⟨(some 68), none, .val (.load 1 false (.tmp 67))⟩,
    ⟨(some 10), none, .val (.mv (.tmp 68))⟩] [64, 65, 66, 67, 68])
  (.seq (.draw true [
    (.early, ⟨(some 70), none, .val (.mv (.tmp 0))⟩),
    (.early, ⟨(some 71), none, .val (.mv (.tmp 1))⟩),
    (.early, ⟨(some 72), none, .val (.mv (.tmp 10))⟩),
    (.early, ⟨(some 73), none, .val (.indexAddr 10 (.tmp 71) (.tmp 72))⟩),
    (.early, ⟨(some 74), none, .val (.load 10 true (.tmp 73))⟩),
    (.early, ⟨(some 75), none, .val (.mv (.tmp 1))⟩),
    (.early, ⟨(some 76), none, .val (.mv (.tmp 9))⟩),
    (.early, ⟨(some 77), none, .val (.indexAddr 10 (.tmp 75) (.tmp 76))⟩),
    (.early, ⟨(some 78), none, .val (.load 10 true (.tmp 77))⟩),
    (.hard, ⟨(some 79), none, .call (.const (.func (.func F.ties_Compare) [] [])) [(.tmp 70), (.tmp 74), (.tmp 78)]⟩),
    (.late, ⟨(some 69), none, .val (.mv (.tmp 79))⟩),
    (.late, ⟨(some 80), none, .val (.extract 0 (.tmp 69))⟩),
    (.late, ⟨(some 81), none, .val (.extract 1 (.tmp 69))⟩),
    (.late, ⟨(some 82), none, .val (.extract 2 (.tmp 69))⟩),
    (.late, ⟨(some 11), none, .val (.mv (.tmp 80))⟩),
    (.late, ⟨(some 12), none, .val (.mv (.tmp 81))⟩),
    (.late, ⟨(some 13), none, .val (.mv (.tmp 82))⟩)] [70, 71, 72, 73, 74, 75, 76, 77, 78, 79, 69, 80, 81, 82, 12])
  (.seq (.draw false (
    (.early, ⟨(some 83), none, .val (.mv (.tmp 13))⟩) ::
    (.early, ⟨(some 84), none, .val (.bin .neq T.apiErrno (.tmp 83) (.const (.int 0)))⟩) ::
    (.early, ⟨(some 85), none, .val (.mv (.tmp 84))⟩) ::
    (.early, ⟨(some 86), (some (85, false)), .val (.mv (.tmp 11))⟩) ::
    (.early, ⟨(some 87), (some (85, false)), .val (.bin .gtr T.int (.tmp 86) (.const (.int 0)))⟩) ::
    (.early, ⟨(some 88), none, .val (.pick (.tmp 85) (.const (.bool true)) (.tmp 87))⟩) ::
    (.early, ⟨(some 89), none, .val (.mv (.tmp 88))⟩) ::
    (.early, ⟨(some 90), (some (89, false)), .val (.mv (.tmp 11))⟩) ::
    (.early, ⟨(some 91), (some (89, false)), .val (.bin .eql T.int (.tmp 90) (.const (.int 0)))⟩) ::
    (.early, ⟨(some 92), (some (89, false)), .val (.mv (.tmp 91))⟩) ::
    (.early, ⟨(some 93), (some (92, true)), .val (.mv (.tmp 1))⟩) ::
    (.early, ⟨(some 94), (some (92, true)), .val (.mv (.tmp 10))⟩) ::
    (.early, ⟨(some 95), (some (92, true)), .val (.indexAddr 10 (.tmp 93) (.tmp 94))⟩) ::
    (.early, ⟨(some 96), (some (92, true)), .val (.fieldAddr 0 (.tmp 95))⟩) ::
    (.early, ⟨(some 97), (some (92, true)), .val (.load 1 false (.tmp 96))⟩) ::
    (.early, ⟨(some 98), (some (92, true)), .val (.mv (.tmp 1))⟩) ::
    (.early, ⟨(some 99), (some (92, true)), .val (.mv (.tmp 9))⟩) ::
    (.early, ⟨(some 100), (some (92, true)), .val (.indexAddr 10 (.tmp 98) (.tmp 99))⟩) ::
    (.early, ⟨(some 101), (some (92, true)), .val (.fieldAddr 0 (.tmp 100))⟩) ::
    (.early, ⟨(some 102), (some (92, true)), .val (.load 1 false (.tmp 101))⟩) ::
    (.early, ⟨(some 103), (some (92, true)), .val (.bin .gtr T.int (.tmp 97) (.tmp 102))⟩) ::
    (.early, ⟨(some 104), (some (92, true)), .val (.mv (.tmp 103))⟩) ::
    (.early, ⟨(some 105), (some (104, false)), .val (.mv (.tmp 1))⟩) ::
    (.early, ⟨(some 106), (some (104, false)), .val (.mv (.tmp 10))⟩) ::
    (.early, ⟨(some 107), (some (104, false)), .val (.indexAddr 10 (.tmp 105) (.tmp 106))⟩) ::
    (.early, ⟨(some 108), (some (104, false)), .val (.fieldAddr 0 (.tmp 107))⟩) ::
    (.early, ⟨(some 109), (some (104, false)), .val (.load 1 false (.tmp 108))⟩) ::
    (.early, ⟨(some 110), (some (104, false)), .val (.mv (.tmp 1))⟩) ::
    (.early, ⟨(some 111), (some (104, false)), .val (.mv (.tmp 9))⟩) ::
    (.early, ⟨(some 112), (some (104, false)), .val (.indexAddr 10 (.tmp 110) (.tmp 111))⟩) ::
    (.early, ⟨(some 113), (some (104, false)), .val (.fieldAddr 0 (.tmp 112))⟩) ::
    (.early, ⟨(some 114), (some (104, false)), .val (.load 1 false (.tmp 113))⟩) ::
    (.early, ⟨(some 115), (some (104, false)), .val (.bin .eql T.int (.tmp 109) (.tmp 114))⟩) ::
    (.early, ⟨(some 116), (some (104, false)), .val (.mv (.tmp 115))⟩) ::
    (.early, ⟨(some 117), (some (116, true)), .val (.mv (.tmp 10))⟩) ::
    (.early, ⟨(some 118), (some (116, true)), .val (.mv (.tmp 9))⟩) ::
    (.early, ⟨(some 119), (some (116, true)), .val (.bin .gtr T.int (.tmp 117) (.tmp 118))⟩) ::
    (.early, ⟨(some 120), (some (104, false)), .val (.pick (.tmp 116) (.tmp 119) (.const (.bool false)))⟩) ::
    (.early, ⟨(some 121), (some (92, true)), .val (.pick (.tmp 104) (.const (.bool true)) (.tmp 120))⟩) ::
    (.early, ⟨(some 122), (some (89, false)), .val (.pick (.tmp 92) (.tmp 121) (.const (.bool false)))⟩) ::
    (.early, ⟨(some 123), none, .val (.pick (.tmp 89) (.const (.bool true)) (.tmp 122))⟩) :: []) (83 :: 84 :: 85 :: 86 :: 87 :: 88 :: 89 :: 90 :: 91 :: 92 :: 93 :: 94 :: 95 :: 96 :: 97 :: 98 :: 99 :: 100 :: 101 :: 102 :: 103 :: 104 :: 105 :: 106 :: 107 :: 108 :: 109 :: 110 :: 111 :: 112 :: 113 :: 114 :: 115 :: 116 :: 117 :: 118 :: 119 :: 120 :: 121 :: 122 :: []))
  (.cond (.tmp 123)
  (.seq (.region [
    ⟨(some 4), none, .val (.mv (.const (.bool false)))⟩] [])
  .ret)
  .skip)))))))))
  (.region [
    ⟨(some 124), none, .val (.bin .add T.int (.tmp 40) (.const (.int 1)))⟩,
    ⟨(some 40), none, .val (.mv (.tmp 124))⟩] [124])))))))
  (.seq (.region [
    ⟨(some 4), none, .val (.mv (.const (.bool true)))⟩] [])
  .ret))))))))⟩
theorem H.podiumlaw21_TiesSort : Has P F.podiumlaw21_TiesSort C.podiumlaw21_TiesSort := ⟨Try.f4, Try.func4, by kernel_rfl, by kernel_rfl⟩
end Go.Proofs.Ytliglilanpfjhaa
/- What is sorted is in order. -/
namespace Go.Proofs.Ytliglilanpfjhaa
open Go.Pv
set_option maxRecDepth 100000
set_option maxHeartbeats 8000000
theorem idxs_lt (n : Nat) : (idxs n).Pairwise (· < ·) := by
  unfold idxs
  rw [List.pairwise_map]
  refine List.Pairwise.imp ?_ List.pairwise_lt_range
  intro a b h
  show (a : Int) < b
  omega
theorem srt_adj {key : Int → Int} {n : Nat} {R : List Int} (hR : R = srt key (idxs n)) {i j : Nat} (hij : i < j) (hj : j < R.length) : key (R[i]'(by omega)) ≤ key R[j] ∧ (key (R[i]'(by omega)) = key R[j] → R[i]'(by omega) < R[j]) := by
  have h1 : Srtd key R := by rw [hR]; exact srt_srtd _
  refine ⟨List.pairwise_iff_getElem.1 h1 i j (by omega) hj hij, fun e => ?_⟩
  have hs : Stb key (idxs n) R := by rw [hR]; exact srt_stb _
  have h2 : (R.filter (fun a => decide (key a = key R[j]))).Pairwise (· < ·) := by
    rw [← hs (key R[j])]
    exact (idxs_lt n).filter _
  rw [List.pairwise_filter] at h2
  exact List.pairwise_iff_getElem.1 h2 i j (by omega) hj hij (decide_eq_true e) (decide_eq_true rfl)
theorem idxs_nodup (n : Nat) : (idxs n).Nodup := (idxs_lt n).imp fun h => by omega
theorem srt_nodup {key : Int → Int} {n : Nat} : (srt key (idxs n)).Nodup := (srt_perm _).nodup_iff.2 (idxs_nodup n)
theorem mem_srtI {key : Int → Int} {n : Nat} {x : Int} (h : x ∈ srt key (idxs n)) : ∃ j : Nat, j < n ∧ x = j := mem_idxs.1 (mem_srt.1 h)
/-- Which indexes have been met. -/
def seenRow (R : List Int) (n i : Nat) : List PV := (List.range n).map fun j : Nat => .bool (decide ((j : Int) ∈ R.take i))
theorem seen_len (R : List Int) (n i : Nat) : (seenRow R n i).length = n := by simp [seenRow]
theorem seen_zero (R : List Int) (n : Nat) : List.replicate n (.bool false) = seenRow R n 0 := by
  unfold seenRow
  refine List.ext_getElem (by simp) fun j h1 h2 => by simp
theorem seen_get {R : List Int} {n i j : Nat} (hi : i < R.length) (hR : R.Nodup) (hj : R[i] = (j : Int)) (h : j < (seenRow R n i).length) : (seenRow R n i)[j]'h = .bool false := by
  have : ¬ (j : Int) ∈ R.take i := fun hm => by
    obtain ⟨k, hk, e⟩ := List.mem_take_iff_getElem.1 hm
    have := (List.pairwise_iff_getElem.1 hR) k i (by omega) hi (by omega)
    rw [hj] at this
    exact this e
  simp [seenRow, this]
theorem seen_set {R : List Int} {n i j : Nat} (hi : i < R.length) (hj : R[i] = (j : Int)) : (seenRow R n i).set j (.bool true) = seenRow R n (i + 1) := by
  refine List.ext_getElem (by simp [seenRow]) fun k h1 h2 => ?_
  unfold seenRow at *
  rw [List.getElem_set]
  simp only [List.getElem_map, List.getElem_range]
  have e : ((k : Int) ∈ R.take (i + 1)) ↔ ((k : Int) ∈ R.take i ∨ (k : Int) = j) := by
    rw [List.take_succ_eq_append_getElem hi, List.mem_append, List.mem_singleton, hj]
  split
  · rename_i h
    subst h
    rw [decide_eq_true (e.2 (.inr rfl))]
  · rename_i h
    have : decide ((k : Int) ∈ R.take i) = decide ((k : Int) ∈ R.take (i + 1)) := decide_eq_decide.2 (by rw [e]; exact ⟨.inl, fun h' => h'.resolve_right (by omega)⟩)
    rw [this]
theorem Rt.sort {l : List Ke} {L : List Ky} (h : Rt l L) (st : Store) : Rets P F.ties_Sort [Ke.lst l, Ky.lst L] st (.tuple [intLst false (srt (keyI l L) (idxs L.length)), .int 0]) := by
  have := sortT_spec l (by have := h.len; omega) L (by have := h.few; omega) h.lens st
  have e : sortE l L = 0 := by
    unfold sortE plainK
    have h2 : L.any (wrongK l) = false := List.any_eq_false.2 fun x hx => by rw [h.right x hx]; simp
    rw [h.ok, h2, decide_eq_true rfl, decide_eq_true h.len]
    rfl
  unfold sortA at this
  rw [e, if_pos rfl, h.ok] at this
  exact this
/-- Of two that follow each other the later one is not first. -/
theorem adj_ok {l : List Ke} {L : List Ky} {R : List Int} (hR : R = srt (keyI l L) (idxs L.length)) {i k m : Nat} (hi : i + 1 < R.length) (hk : R[i] = (k : Int)) (hm : R[i + 1] = (m : Int)) (hkl : k < L.length) (hml : m < L.length) :
    (lexc (vec l L[k]) (vec l L[m]) 0).1 ≤ 0 ∧ ((lexc (vec l L[k]) (vec l L[m]) 0).1 = 0 → L[k].entry ≤ L[m].entry ∧ (L[k].entry = L[m].entry → k < m)) := by
  obtain ⟨h1, h2⟩ := srt_adj hR (Nat.lt_succ_self i) hi
  rw [hk, hm] at h1 h2
  have e := keyI_cmp l L k m hkl hml
  rw [vec2_lexc] at e
  obtain ⟨c, hc⟩ : ∃ c, c = (lexc (vec l L[k]) (vec l L[m]) 0).1 := ⟨_, rfl⟩
  rw [← hc] at e ⊢
  have hle : cmpZ (keyI l L k) (keyI l L m) ≤ 0 := by unfold cmpZ; repeat' split <;> omega
  by_cases h0 : c = 0
  · rw [if_pos h0] at e
    refine ⟨by omega, fun _ => ?_⟩
    have a1 : L[k].entry ≤ L[m].entry := by
      rw [← e] at hle
      unfold cmpZ at hle
      split at hle <;> (try split at hle) <;> omega
    refine ⟨a1, fun ee => ?_⟩
    have : cmpZ L[k].entry L[m].entry = 0 := by unfold cmpZ; rw [ee]; simp
    rw [this] at e
    have ek : keyI l L k = keyI l L m := by
      unfold cmpZ at e
      split at e <;> (try split at e) <;> omega
    have := h2 ek
    omega
  · rw [if_neg h0] at e
    rw [e]
    exact ⟨hle, fun h => absurd (e.trans h) h0⟩
theorem sort_law (l : List Ke) (hl : l.length ≤ 9223372036854775807) (L : List Ky) (hL : L.length ≤ 9223372036854775807) (hw : ∀ x ∈ L, Ky.Wide x) (st : Store) : Rets P F.podiumlaw21_TiesSort [Ke.lst l, Ky.lst L] st (.bool true) := by
  have cs := sane_spec
  have cr := lawRight_spec l hl false L hL hw
  clear hw hL hl
  cases hRr : rightL l L with
  | false =>
    rw [hRr] at cr
    refine H.podiumlaw21_TiesSort.view hmix rfl rfl ?_
    repeat' (first 
     | (with_reducible refine Rets.xcall (cs _) ?_)
     | (with_reducible refine Rets.xcall (cr _) ?_)
     | (simp -dsimp -implicitDefEqProofs [*]))
    exact RetView.drop (st' := st) (by repeat' (first | exact StLe.refl _ | (refine StLe_cons (by simp [*]; done) ?_) | (refine StLe_fresh (by simp [*]; done) ?_))) ⟨rfl, rfl⟩
  | true =>
    rw [hRr] at cr
    have h := rightL_iff hRr
    have c1 := h.sort
    have hn := h.few
    obtain ⟨R, hR⟩ : ∃ R, R = srt (keyI l L) (idxs L.length) := ⟨_, rfl⟩
    have kR : Hid (R = srt (keyI l L) (idxs L.length) ∧ Rt l L) := ⟨hR, h⟩
    rw [← hR] at c1
    have lR : R.length = L.length := by rw [hR, srt_length, idxs_len]
    have lRi : (R.length : Int) = L.length := by omega
    have kM : Hid (R.Nodup ∧ ∀ x ∈ R, ∃ j : Nat, j < L.length ∧ x = j) := ⟨by rw [hR]; exact srt_nodup, fun x hx => mem_srtI (by rw [← hR]; exact hx)⟩
    clear hR h hRr
    refine H.podiumlaw21_TiesSort.view hmix rfl rfl ?_
    repeat' (first 
     | (with_reducible refine Fresh.intro fun b hb => ?_) <;> (try simp -dsimp -implicitDefEqProofs [*] at hb)
     | (with_reducible refine Rets.xcall (cs _) ?_)
     | (with_reducible refine Rets.xcall (cr _) ?_)
     | (with_reducible refine Rets.xcall (c1 _) ?_)
     | ((with_reducible refine and_keep ?_ fun hk => ?_); omega)
     | (simp -dsimp -implicitDefEqProofs [*]))
    have nb : snew st b := by assumption
    refine xloop_for (fun n : Nat => [(0, Ke.lst l), (1, Ky.lst L), (5, intLst false R), (7, .own b 0 L.length L.length), (38, intLst false R), (39, .int L.length), (40, .int n)]) (fun n => (b, .arr T.bool (seenRow R L.length n)) :: st) (fun n => n ≤ L.length) (fun n => L.length - n) 0 (Nat.zero_le _) (by simp) (by rw [seen_zero]; exact .refl _) ?_
    intro i hi
    clear c1 cs cr
    by_cases hil : i < L.length
    · have ww := wrap_succ (n := i) (by omega)
      have hiR : i < R.length := by omega
      obtain ⟨m, hmL, hm⟩ := kM.out.2 R[i] (List.getElem_mem hiR)
      have g0 : ∀ h, (intRow R)[i]'h = .int m := fun h => by rw [intRow_getE, hm]
      have g1 : ∀ h, (seenRow R L.length i)[m]'h = .bool false := fun h => seen_get hiR kM.out.1 hm h
      have g2 := seen_set (n := L.length) hiR hm
      have gl := seen_len R L.length i
      obtain ⟨S, hS⟩ : ∃ S, S = seenRow R L.length i := ⟨_, rfl⟩
      obtain ⟨S2, hS2⟩ : ∃ S, S = seenRow R L.length (i + 1) := ⟨_, rfl⟩
      rw [← hS] at g1 g2 gl ⊢
      rw [← hS2] at g2
      have kS2 : Hid _ := ⟨hS2⟩
      have hms : m < S.length := by omega
      clear hS hS2
      have hmLi : (m : Int) < L.length := by omega
      have hmLi2 : ¬ (L.length : Int) ≤ m := by omega
      cases i with
      | zero =>
        clear hm kM kR
        repeat' (first 
         | (with_reducible refine And.intro (fun h => ?_) ?_) <;> (try (exfalso; omega))
         | ((with_reducible refine and_keep ?_ fun hk => ?_); omega)
         | (simp -dsimp -implicitDefEqProofs [-intRow_getE, *]))
        exact Next.intro 1 (by omega) (by omega) (by simp) (by rw [← kS2.out]; exact .refl _)
      | succ i =>
        have w1 : IntKind.i64.wrap (i : Int) = i := wrap_in (by omega) (by omega)
        have ww2 : IntKind.i64.wrap ((i : Int) + 1 + 1) = (i : Int) + 1 + 1 := wrap_in (by omega) (by omega)
        have hiR2 : i < R.length := by omega
        obtain ⟨k, hkL, hk⟩ := kM.out.2 R[i] (List.getElem_mem hiR2)
        have g3 : ∀ h, (intRow R)[i]'h = .int k := fun h => by rw [intRow_getE, hk]
        have cc := kR.out.2.comp (List.getElem_mem hkL) (List.getElem_mem hmL)
        obtain ⟨f1, f2⟩ := adj_ok kR.out.1 (by omega) hk hm hkL hmL
        have q1 := Ky.row_sub L k hkL
        have q2 := Ky.row_sub L m hmL
        have q3 := Ky.row_get0 L k hkL
        have q4 := Ky.row_get0 L m hmL
        have q5 : ∀ h, (Ky.row L)[k * 10]'h = .int L[k].entry := fun h => by
          rw [List.getElem?_eq_getElem h] at q3
          exact Option.some.inj q3
        have q6 : ∀ h, (Ky.row L)[m * 10]'h = .int L[m].entry := fun h => by
          rw [List.getElem?_eq_getElem h] at q4
          exact Option.some.inj q4
        have k10 : k * 10 < L.length * 10 := by omega
        have m10 : m * 10 < L.length * 10 := by omega
        have hkLi : (k : Int) < L.length := by omega
        obtain ⟨r, hr⟩ : ∃ r, r = lexc (vec l L[k]) (vec l L[m]) 0 := ⟨_, rfl⟩
        rw [← hr] at cc f1 f2
        obtain ⟨x, hx⟩ : ∃ x, x = L[k] := ⟨_, rfl⟩
        obtain ⟨y, hy⟩ : ∃ x, x = L[m] := ⟨_, rfl⟩
        rw [← hx] at cc f2 q1 q5
        rw [← hy] at cc f2 q2 q6
        have n0 : ¬ 0 < r.1 := by omega
        clear hm hk kM kR hr hx hy q3 q4 f1
        by_cases h0 : r.1 = 0
        · obtain ⟨f3, f4⟩ := f2 h0
          have n1 : ¬ y.entry < x.entry := by omega
          by_cases he : x.entry = y.entry
          · have n2 : ¬ m < k := by have := f4 he; omega
            clear f2 f3 f4
            repeat' (first 
             | (with_reducible refine Rets.xcall (cc _) ?_)
             | (with_reducible refine DrawLate.intro [] ?_)
             | (with_reducible refine And.intro (fun h => ?_) (fun h => ?_)) <;> (try (exfalso; omega))
             | (with_reducible refine And.intro (fun h => ?_) ?_) <;> (try (exfalso; omega))
             | ((with_reducible refine and_keep ?_ fun hk => ?_); omega)
             | (simp -dsimp -implicitDefEqProofs [-intRow_getE, -Ky.row_sub, -Ky.row_get0, *]))
            exact Next.intro (i + 2) (by omega) (by omega) (by simp; omega) (by rw [← kS2.out]; exact .refl _)
          · clear f2 f3 f4
            repeat' (first 
             | (with_reducible refine Rets.xcall (cc _) ?_)
             | (with_reducible refine DrawLate.intro [] ?_)
             | (with_reducible refine And.intro (fun h => ?_) (fun h => ?_)) <;> (try (exfalso; omega))
             | (with_reducible refine And.intro (fun h => ?_) ?_) <;> (try (exfalso; omega))
             | ((with_reducible refine and_keep ?_ fun hk => ?_); omega)
             | (simp -dsimp -implicitDefEqProofs [-intRow_getE, -Ky.row_sub, -Ky.row_get0, *]))
            exact Next.intro (i + 2) (by omega) (by omega) (by simp; omega) (by rw [← kS2.out]; exact .refl _)
        · clear f2
          repeat' (first 
           | (with_reducible refine Rets.xcall (cc _) ?_)
           | (with_reducible refine DrawLate.intro [] ?_)
           | (with_reducible refine And.intro (fun h => ?_) (fun h => ?_)) <;> (try (exfalso; omega))
           | (with_reducible refine And.intro (fun h => ?_) ?_) <;> (try (exfalso; omega))
           | ((with_reducible refine and_keep ?_ fun hk => ?_); omega)
           | (simp -dsimp -implicitDefEqProofs [-intRow_getE, -Ky.row_sub, -Ky.row_get0, *]))
          exact Next.intro (i + 2) (by omega) (by omega) (by simp; omega) (by rw [← kS2.out]; exact .refl _)
    · have e : i = L.length := by omega
      subst e
      clear kM kR
      repeat' (simp -dsimp -implicitDefEqProofs [*])
      exact RetView.drop (st' := st) (by repeat' (first | exact StLe.refl _ | (refine StLe_cons (by simp [*]; done) ?_) | (refine StLe_fresh (by simp [*]; done) ?_))) ⟨rfl, rfl⟩
end Go.Proofs.Ytliglilanpfjhaa
