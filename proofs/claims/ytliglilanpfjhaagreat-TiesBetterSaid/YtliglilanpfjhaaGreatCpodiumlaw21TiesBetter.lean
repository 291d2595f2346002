/- The code of one function. -/
import Derived.Test.YtliglilanpfjhaaGreatCode
import Derived.Test.YtliglilanpfjhaaGreatG21SA
import Derived.Test.YtliglilanpfjhaaGreatLLx
set_option maxRecDepth 100000
namespace Go.Proofs.YtliglilanpfjhaaGreat
open Go.Pv
/-- podium/podiumlaw21.TiesBetter -/
noncomputable def C.podiumlaw21_TiesBetter : MFunc := ⟨125, 6, [.tmp 12],
  (.seq (.region [
    ⟨(some 7), none, .box T.apiKeyed (.tmp 1)⟩,
    ⟨(some 8), none, .box T.apiKeyed (.tmp 2)⟩,
    ⟨(some 10), none, .box T.uint8 (.tmp 4)⟩,
    ⟨(some 12), none, .val (.mv (.const (.bool false)))⟩] [])
  (.seq (.seq (.region [
    ⟨(some 22), none, .call (.const (.func (.func F.podiumlaw21_sane) [] [])) []⟩,
    ⟨(some 23), none, .val (.un .not (.tmp 22))⟩] [22])
  (.cond (.tmp 23)
  (.seq (.region [
    ⟨(some 12), none, .val (.mv (.const (.bool false)))⟩] [])
  .ret)
  .skip))
  (.seq (.seq (.region [
    ⟨(some 24), none, .val (.mv (.tmp 0))⟩,
    ⟨(some 25), none, .val (.load 10 true (.tmp 7))⟩,
    ⟨(some 26), none, .val (.load 10 true (.tmp 8))⟩,
    ⟨(some 27), none, .val (.buildSlice T.apiKeyed 2 [(.int 0), (.bool false), .nil, (.bool false), .nil, .nil, .nil, (.int 0), (.int 0), (.int 0), (.int 0), (.bool false), .nil, (.bool false), .nil, .nil, .nil, (.int 0), (.int 0), (.int 0)] [(0, 10, (.tmp 25)), (10, 10, (.tmp 26))])⟩,
    ⟨(some 28), none, .call (.const (.func (.func F.podiumlaw21_right) [] [])) [(.tmp 24), (.tmp 27)]⟩,
    ⟨(some 29), none, .val (.un .not (.tmp 28))⟩] [24, 25, 26, 27, 28])
  (.cond (.tmp 29)
  (.seq (.region [
    ⟨(some 12), none, .val (.mv (.const (.bool true)))⟩] [])
  .ret)
  .skip))
  (.seq (.region [
    ⟨(some 31), none, .val (.mv (.tmp 0))⟩,
    ⟨(some 32), none, .val (.load 10 true (.tmp 7))⟩,
    ⟨(some 33), none, .val (.load 10 true (.tmp 8))⟩,
    ⟨(some 34), none, .call (.const (.func (.func F.ties_Compare) [] [])) [(.tmp 31), (.tmp 32), (.tmp 33)]⟩,
    ⟨(some 30), none, .val (.mv (.tmp 34))⟩,
    ⟨(some 35), none, .val (.extract 0 (.tmp 30))⟩,
    ⟨(some 36), none, .val (.extract 1 (.tmp 30))⟩,
    ⟨(some 37), none, .val (.extract 2 (.tmp 30))⟩,
    ⟨(some 13), none, .val (.mv (.tmp 35))⟩,
    ⟨(some 14), none, .val (.mv (.tmp 36))⟩,
    ⟨(some 15), none, .val (.mv (.tmp 37))⟩] [31, 32, 33, 34, 30, 35, 36, 37, 14])
  (.seq (.seq (.region [
    ⟨(some 38), none, .val (.mv (.tmp 15))⟩,
    ⟨(some 39), none, .val (.bin .neq T.apiErrno (.tmp 38) (.const (.int 0)))⟩] [38])
  (.cond (.tmp 39)
  (.seq (.region [
    ⟨(some 12), none, .val (.mv (.const (.bool false)))⟩] [])
  .ret)
  .skip))
  (.seq (.region [
    ⟨(some 41), none, .val (.mv (.tmp 5))⟩,
    ⟨(some 42), none, .val (.toInt .i64 (.tmp 41))⟩,
    ⟨(some 43), none, .call (.const (.func (.func F.ratio_Make) [] [])) [(.tmp 42), (.const (.int 3))]⟩,
    ⟨(some 40), none, .val (.mv (.tmp 43))⟩,
    ⟨(some 44), none, .val (.extract 0 (.tmp 40))⟩,
    ⟨(some 45), none, .val (.extract 1 (.tmp 40))⟩,
    ⟨(some 16), none, .alloc T.apiRatio [(.bool false), .nil, (.bool false), .nil]⟩,
    ⟨(some 17), none, .alloc T.apiErrno [(.int 0)]⟩,
    ⟨none, none, .store 4 (.tmp 16) (.tmp 44)⟩,
    ⟨none, none, .store 1 (.tmp 17) (.tmp 45)⟩] [41, 42, 43, 40, 44, 45])
  (.seq (.region [
    ⟨(some 46), none, .val (.mkFunc (.func F.podiumlaw21_TiesBetter_1) [] [(.tmp 17), (.tmp 10), (.tmp 16)])⟩,
    ⟨(some 18), none, .val (.mv (.tmp 46))⟩] [46])
  (.seq (.seq (.region [
    ⟨(some 47), none, .val (.mv (.tmp 3))⟩,
    ⟨(some 48), none, .val (.bin .rem T.uint8 (.tmp 47) (.const (.val (.int .u8 6))))⟩] [47])
  (.block 0 (.seq (.region [
    ⟨(some 59), none, .val (.bin .eql T.uint8 (.tmp 48) (.const (.val (.int .u8 0))))⟩,
    ⟨(some 58), none, .val (.mv (.tmp 59))⟩] [59])
  (.cond (.tmp 58)
  (.seq (.region [
    ⟨(some 60), none, .val (.load 1 false (.tmp 17))⟩,
    ⟨(some 61), none, .val (.bin .eql T.apiErrno (.tmp 60) (.const (.int 0)))⟩] [60])
  (.cond (.tmp 61)
  (.region [
    ⟨(some 63), none, .val (.fieldAddr 1 (.tmp 7))⟩,
    ⟨(some 64), none, .val (.load 4 true (.tmp 63))⟩,
    ⟨(some 65), none, .val (.load 4 true (.tmp 16))⟩,
    ⟨(some 66), none, .call (.const (.func (.func F.ratio_Add) [] [])) [(.tmp 64), (.tmp 65)]⟩,
    ⟨(some 62), none, .val (.mv (.tmp 66))⟩,
    ⟨(some 67), none, .val (.extract 0 (.tmp 62))⟩,
    ⟨(some 68), none, .val (.extract 1 (.tmp 62))⟩,
    ⟨(some 69), none, .val (.fieldAddr 1 (.tmp 7))⟩,
    ⟨none, none, .store 4 (.tmp 69) (.tmp 67)⟩,
    ⟨none, none, .store 1 (.tmp 17) (.tmp 68)⟩] [63, 64, 65, 66, 62, 67, 68, 69])
  .skip))
  (.seq (.region [
    ⟨(some 71), none, .val (.bin .eql T.uint8 (.tmp 48) (.const (.val (.int .u8 1))))⟩,
    ⟨(some 70), none, .val (.mv (.tmp 71))⟩] [71])
  (.cond (.tmp 70)
  (.region [
    ⟨(some 72), none, .val (.mv (.tmp 18))⟩,
    ⟨(some 73), none, .val (.fieldAddr 5 (.tmp 7))⟩,
    ⟨(some 74), none, .val (.load 1 false (.tmp 73))⟩,
    ⟨(some 75), none, .call (.tmp 72) [(.tmp 74)]⟩,
    ⟨(some 76), none, .val (.fieldAddr 5 (.tmp 7))⟩,
    ⟨none, none, .store 1 (.tmp 76) (.tmp 75)⟩] [72, 73, 74, 75, 76])
  (.seq (.region [
    ⟨(some 78), none, .val (.bin .eql T.uint8 (.tmp 48) (.const (.val (.int .u8 2))))⟩,
    ⟨(some 77), none, .val (.mv (.tmp 78))⟩] [78])
  (.cond (.tmp 77)
  (.region [
    ⟨(some 79), none, .val (.mv (.tmp 18))⟩,
    ⟨(some 80), none, .val (.fieldAddr 6 (.tmp 7))⟩,
    ⟨(some 81), none, .val (.load 1 false (.tmp 80))⟩,
    ⟨(some 82), none, .call (.tmp 79) [(.tmp 81)]⟩,
    ⟨(some 83), none, .val (.fieldAddr 6 (.tmp 7))⟩,
    ⟨none, none, .store 1 (.tmp 83) (.tmp 82)⟩] [79, 80, 81, 82, 83])
  (.seq (.region [
    ⟨(some 85), none, .val (.bin .eql T.uint8 (.tmp 48) (.const (.val (.int .u8 3))))⟩,
    ⟨(some 84), none, .val (.mv (.tmp 85))⟩] [85])
  (.cond (.tmp 84)
  (.region [
    ⟨(some 86), none, .val (.fieldAddr 7 (.tmp 7))⟩,
    ⟨(some 87), none, .val (.load 1 false (.tmp 86))⟩,
    ⟨(some 88), none, .val (.fieldAddr 7 (.tmp 7))⟩,
    ⟨(some 89), none, .val (.load 1 false (.tmp 88))⟩,
    ⟨(some 90), none, .val (.mv (.tmp 5))⟩,
    ⟨(some 91), none, .val (.toInt .i64 (.tmp 90))⟩,
    ⟨(some 92), none, .val (.bin .add T.int (.tmp 89) (.tmp 91))⟩,
    ⟨(some 93), none, .val (.minmax true [(.tmp 87), (.tmp 92)])⟩,
    ⟨(some 94), none, .val (.fieldAddr 7 (.tmp 7))⟩,
    ⟨none, none, .store 1 (.tmp 94) (.tmp 93)⟩] [86, 87, 88, 89, 90, 91, 92, 93, 94])
  (.seq (.region [
    ⟨(some 96), none, .val (.bin .eql T.uint8 (.tmp 48) (.const (.val (.int .u8 4))))⟩,
    ⟨(some 95), none, .val (.mv (.tmp 96))⟩] [96])
  (.cond (.tmp 95)
  (.region [
    ⟨(some 97), none, .val (.fieldAddr 8 (.tmp 7))⟩,
    ⟨(some 98), none, .val (.load 1 false (.tmp 97))⟩,
    ⟨(some 99), none, .val (.fieldAddr 8 (.tmp 7))⟩,
    ⟨(some 100), none, .val (.load 1 false (.tmp 99))⟩,
    ⟨(some 101), none, .val (.mv (.tmp 5))⟩,
    ⟨(some 102), none, .val (.toInt .i64 (.tmp 101))⟩,
    ⟨(some 103), none, .val (.bin .add T.int (.tmp 100) (.tmp 102))⟩,
    ⟨(some 104), none, .val (.minmax true [(.tmp 98), (.tmp 103)])⟩,
    ⟨(some 105), none, .val (.fieldAddr 8 (.tmp 7))⟩,
    ⟨none, none, .store 1 (.tmp 105) (.tmp 104)⟩] [97, 98, 99, 100, 101, 102, 103, 104, 105])
  (.region [
    ⟨(some 49), none, .val (.fieldAddr 9 (.tmp 7))⟩,
    ⟨(some 50), none, .val (.load 1 false (.tmp 49))⟩,
    ⟨(some 51), none, .val (.fieldAddr 9 (.tmp 7))⟩,
    ⟨(some 52), none, .val (.load 1 false (.tmp 51))⟩,
    ⟨(some 53), none, .val (.mv (.tmp 5))⟩,
    ⟨(some 54), none, .val (.toInt .i64 (.tmp 53))⟩,
    ⟨(some 55), none, .val (.bin .sub T.int (.tmp 52) (.tmp 54))⟩,
    ⟨(some 56), none, .val (.minmax false [(.tmp 50), (.tmp 55)])⟩,
    ⟨(some 57), none, .val (.fieldAddr 9 (.tmp 7))⟩,
    ⟨none, none, .store 1 (.tmp 57) (.tmp 56)⟩] [49, 50, 51, 52, 53, 54, 55, 56, 57])))))))))))))
  (.seq (.region [
    ⟨(some 107), none, .val (.mv (.tmp 0))⟩,
    ⟨(some 108), none, .val (.load 10 true (.tmp 7))⟩,
    ⟨(some 109), none, .val (.load 10 true (.tmp 8))⟩,
    ⟨(some 110), none, .call (.const (.func (.func F.ties_Compare) [] [])) [(.tmp 107), (.tmp 108), (.tmp 109)]⟩,
    ⟨(some 106), none, .val (.mv (.tmp 110))⟩,
    ⟨(some 111), none, .val (.extract 0 (.tmp 106))⟩,
    ⟨(some 112), none, .val (.extract 1 (.tmp 106))⟩,
    ⟨(some 113), none, .val (.extract 2 (.tmp 106))⟩,
    ⟨(some 19), none, .val (.mv (.tmp 111))⟩,
    ⟨(some 20), none, .val (.mv (.tmp 112))⟩,
    ⟨(some 21), none, .val (.mv (.tmp 113))⟩] [107, 108, 109, 110, 106, 111, 112, 113, 20])
  (.seq (.region [
    ⟨(some 114), none, .val (.load 1 false (.tmp 17))⟩,
    ⟨(some 115), none, .val (.bin .eql T.apiErrno (.tmp 114) (.const (.int 0)))⟩,
    ⟨(some 116), none, .val (.mv (.tmp 115))⟩,
    ⟨(some 117), (some (116, true)), .val (.mv (.tmp 21))⟩,
    ⟨(some 118), (some (116, true)), .val (.bin .eql T.apiErrno (.tmp 117) (.const (.int 0)))⟩,
    ⟨(some 119), none, .val (.pick (.tmp 116) (.tmp 118) (.const (.bool false)))⟩,
    ⟨(some 120), none, .val (.mv (.tmp 119))⟩,
    ⟨(some 121), (some (120, true)), .val (.mv (.tmp 19))⟩,
    ⟨(some 122), (some (120, true)), .val (.mv (.tmp 13))⟩,
    ⟨(some 123), (some (120, true)), .val (.bin .leq T.int (.tmp 121) (.tmp 122))⟩,
    ⟨(some 124), none, .val (.pick (.tmp 120) (.tmp 123) (.const (.bool false)))⟩,
    ⟨(some 12), none, .val (.mv (.tmp 124))⟩] [114, 115, 116, 117, 118, 119, 120, 121, 122, 123, 124])
  .ret))))))))))⟩
theorem H.podiumlaw21_TiesBetter : Has P F.podiumlaw21_TiesBetter C.podiumlaw21_TiesBetter := ⟨Tryz.f5, Tryz.func5, by kernel_rfl, by kernel_rfl⟩
end Go.Proofs.YtliglilanpfjhaaGreat
/- What becomes better: plain. -/
namespace Go.Proofs.YtliglilanpfjhaaGreat
open Go.Pv
set_option maxRecDepth 100000
set_option maxHeartbeats 8000000
/-- A number's cells. -/
def rwQ (q : Rat) : Rw := ⟨decide (q.num < 0), digs q.num.natAbs, false, digs q.den⟩
theorem rwQ_enc (q : Rat) : (rwQ q).enc = rC false false q := by rw [rC_cells]; rfl
theorem rwQ_is {q : Rat} (h1 : dl q.num.natAbs ≤ 1024) (h2 : dl q.den ≤ 1024) : IsRat (rwQ q).s1 (rwQ q).L1 (rwQ q).s2 (rwQ q).L2 q := ⟨rfl, rfl, rfl, rfl, by omega, by omega⟩
theorem rwQ_good {q : Rat} (h1 : dl q.num.natAbs ≤ 1024) (h2 : dl q.den ≤ 1024) : (rwQ q).good = true := by
  unfold Rw.good
  rw [(rwQ_is h1 h2).ok, decide_eq_true (show (rwQ q).L1.length ≤ 1024 from h1), decide_eq_true (show (rwQ q).L2.length ≤ 1024 from h2)]
  rfl
theorem rwQ_val {q : Rat} (h1 : dl q.num.natAbs ≤ 1024) (h2 : dl q.den ≤ 1024) : (rwQ q).val = q := IsRat.val (rwQ_is h1 h2)
theorem rwQ_len {q : Rat} (h1 : dl q.num.natAbs ≤ 1024) (h2 : dl q.den ≤ 1024) : (rwQ q).Len := ⟨by show dl q.num.natAbs ≤ 100000; omega, by show dl q.den ≤ 100000; omega⟩
/-- Few digits. -/
theorem few_digits {r : Rw} (hg : r.good = true) (hf : fewR r = true) : dl r.val.num.natAbs ≤ 4 ∧ dl r.val.den ≤ 4 := by
  unfold Rw.good at hg
  simp only [Bool.and_eq_true, decide_eq_true_eq] at hg
  obtain ⟨h1, h2, h3⟩ := hg
  simp only [fewR, fewB, Bool.and_eq_true, Bool.or_eq_true, decide_eq_true_eq] at hf
  obtain ⟨q, hq⟩ := ratOk_iff.1 h1
  have e : r.val = q := IsRat.val hq
  rw [e]
  unfold dl
  rw [← hq.L1, ← hq.L2]
  omega
theorem add_small {a n : Rat} (ha : dl a.num.natAbs ≤ 4 ∧ dl a.den ≤ 4) (hn : dl n.num.natAbs ≤ 1 ∧ dl n.den ≤ 1) : AddSmall a n ∧ dl (a + n).num.natAbs ≤ 1024 ∧ dl (a + n).den ≤ 1024 := by
  have m1 : dl (a.num * n.den).natAbs ≤ 5 := by
    rw [Int.natAbs_mul]
    have := dl_mul a.num.natAbs n.den
    show dl (a.num.natAbs * n.den) ≤ 5
    omega
  have m2 : dl (n.num * a.den).natAbs ≤ 5 := by
    rw [Int.natAbs_mul]
    have := dl_mul n.num.natAbs a.den
    show dl (n.num.natAbs * a.den) ≤ 5
    omega
  have m3 : dl (a.den * n.den) ≤ 5 := by
    have := dl_mul a.den n.den
    omega
  have m4 : dl (a.num * n.den + n.num * a.den).natAbs ≤ 6 := by
    have h1 := dl_add (a.num * n.den).natAbs (n.num * a.den).natAbs
    have h2 := dl_mono (Int.natAbs_add_le (a.num * n.den) (n.num * a.den))
    omega
  have hd : a.den * n.den ≠ 0 := Nat.mul_ne_zero a.den_nz n.den_nz
  obtain ⟨s1, s2⟩ := mkRat_small (a.num * n.den + n.num * a.den) hd
  rw [← Rat.add_def'] at s1 s2
  have d1 := dl_mono s1
  have d2 := dl_mono s2
  exact ⟨⟨⟨by omega, by omega⟩, ⟨by omega, by omega⟩, by omega, by omega, by omega, by omega⟩, by omega, by omega⟩
/-- Something of an entry is better, nothing is worse. -/
structure Better (x z : Ky) : Prop where
  score : x.score.val ≤ z.score.val
  lt : z.totals.length = x.totals.length
  lp : z.prev.length = x.prev.length
  totals : ∀ j, (x.totals.getD j default).val ≤ (z.totals.getD j default).val
  prev : ∀ j, (x.prev.getD j default).val ≤ (z.prev.getD j default).val
  high : x.high ≤ z.high
  bonus : x.bonus ≤ z.bonus
  lot : z.lot ≤ x.lot
theorem Better.key {x z : Ky} (h : Better x z) (k : Ke) : keyV k z ≤ keyV k x := by
  unfold keyV
  split
  · exact Rat.neg_le_neg (h.totals _)
  · split
    · exact Rat.neg_le_neg (h.prev _)
    · split
      · have := h.high
        exact Rat.intCast_le_intCast.2 (by omega)
      · split
        · have := h.bonus
          exact Rat.intCast_le_intCast.2 (by omega)
        · exact Rat.intCast_le_intCast.2 h.lot
theorem Better.has {x z : Ky} (h : Better x z) (k : Ke) : hasK k z = hasK k x := by unfold hasK; rw [h.lt, h.lp]
theorem Better.mono {l : List Ke} {x z y : Ky} (h : Better x z) : (lexc (vec l z) (vec l y) 0).1 ≤ (lexc (vec l x) (vec l y) 0).1 := by
  refine lexc_mono (by rw [vec_len, vec_len]) (fun j h1 h2 => ?_) (vec l y) 0
  cases j with
  | zero => exact Rat.neg_le_neg h.score
  | succ j =>
    have hj : j < l.length := by rw [vec_len] at h1; omega
    have e1 : (vec l z)[j + 1]'h1 = keyV l[j] z := by simp [vec]
    have e2 : (vec l x)[j + 1]'h2 = keyV l[j] x := by simp [vec]
    rw [e1, e2]
    exact h.key _
theorem Better.comp {l : List Ke} {x z y : Ky} (h : Better x z) (hR : Rt l [x, y]) (hg : z.good = true) (hlen : z.Len) (st : Store) : Rets P F.ties_Compare [Ke.lst l, z.pv, y.pv] st (.tuple [.int (lexc (vec l z) (vec l y) 0).1, .int (lexc (vec l z) (vec l y) 0).2, .int 0]) := by
  have hz : wrongK l z = false := by
    have h1 := hR.right x (by simp)
    unfold wrongK at h1 ⊢
    simp only [Bool.or_eq_false_iff, Bool.not_eq_false'] at h1
    rw [hg]
    simp only [Bool.or_eq_false_iff]
    refine ⟨?_, rfl⟩
    rw [List.any_eq_false] at h1 ⊢
    intro k hk
    rw [h.has k]
    exact h1.1 k hk
  have hR2 : Rt l [z, y] := ⟨hR.ok, hR.len, fun w hw => by
      rcases List.mem_cons.1 hw with rfl | hw
      · exact hz
      · exact hR.right w (List.mem_cons_of_mem _ hw), fun w hw => by
      rcases List.mem_cons.1 hw with rfl | hw
      · exact hlen
      · exact hR.lens w (List.mem_cons_of_mem _ hw), hR.few⟩
  exact hR2.comp (by simp) (by simp) st
theorem Better.refl (x : Ky) : Better x x := ⟨Rat.le_refl, rfl, rfl, fun _ => Rat.le_refl, fun _ => Rat.le_refl, Int.le_refl _, Int.le_refl _, Int.le_refl _⟩
@[simp] theorem Ky.set_score (x : Ky) (r : Rw) : setCells x.enc 1 r.enc = ({ x with score := r } : Ky).enc := rfl
@[simp] theorem Ky.set5 (x : Ky) (l : List Rw) : x.enc.set 5 (.list false (Rw.row l) l.length) = ({ x with totals := l } : Ky).enc := rfl
@[simp] theorem Ky.set6 (x : Ky) (l : List Rw) : x.enc.set 6 (.list false (Rw.row l) l.length) = ({ x with prev := l } : Ky).enc := rfl
@[simp] theorem Ky.set7 (x : Ky) (v : Int) : x.enc.set 7 (.int v) = ({ x with high := v } : Ky).enc := rfl
@[simp] theorem Ky.set8 (x : Ky) (v : Int) : x.enc.set 8 (.int v) = ({ x with bonus := v } : Ky).enc := rfl
@[simp] theorem Ky.set9 (x : Ky) (v : Int) : x.enc.set 9 (.int v) = ({ x with lot := v } : Ky).enc := rfl
/-- One number of a list grows. -/
def grow (l : List Rw) (at_ : Nat) (n : Rat) : List Rw := if l = [] then [] else l.set (at_ % l.length) (rwQ ((l.getD (at_ % l.length) default).val + n))
theorem grow_len (l : List Rw) (at_ : Nat) (n : Rat) : (grow l at_ n).length = l.length := by
  unfold grow
  split
  · rename_i h; rw [h]
  · simp
theorem grow_val {l : List Rw} {at_ : Nat} {n : Rat} (hn0 : 0 ≤ n) (hn : dl n.num.natAbs ≤ 1 ∧ dl n.den ≤ 1) (hg : ∀ r ∈ l, r.good = true) (hf : ∀ r ∈ l, fewR r = true) (j : Nat) : (l.getD j default).val ≤ ((grow l at_ n).getD j default).val := by
  unfold grow
  by_cases h : l = []
  · subst h; simp
  · rw [if_neg h]
    have hp : 0 < l.length := List.length_pos_iff.2 h
    have hk : at_ % l.length < l.length := Nat.mod_lt _ hp
    by_cases hj : j < l.length
    · simp only [List.getD_eq_getElem?_getD, List.getElem?_eq_getElem hj, List.getElem?_eq_getElem hk, Option.getD_some, List.getElem?_eq_getElem (show j < (l.set (at_ % l.length) (rwQ ((l[at_ % l.length]).val + n))).length by simpa using hj)]
      rw [List.getElem_set]
      split
      · rename_i e
        subst e
        obtain ⟨-, d1, d2⟩ := add_small (few_digits (hg _ (List.getElem_mem hk)) (hf _ (List.getElem_mem hk))) hn
        rw [rwQ_val d1 d2]
        have := Rat.add_le_add_left (c := (l[at_ % l.length]).val) |>.2 hn0
        simpa [Rat.add_zero] using this
      · exact Rat.le_refl
    · have e1 : l[j]? = none := List.getElem?_eq_none (Nat.not_lt.1 hj)
      have e2 : ∀ r, (l.set (at_ % l.length) r)[j]? = none := fun r => List.getElem?_eq_none (by simp; omega)
      simp only [List.getD_eq_getElem?_getD, e1, e2]
      exact Rat.le_refl
theorem grow_all {l : List Rw} {at_ : Nat} {n : Rat} (hn : dl n.num.natAbs ≤ 1 ∧ dl n.den ≤ 1) (hg : ∀ r ∈ l, r.good = true) (hf : ∀ r ∈ l, fewR r = true) : ∀ r ∈ grow l at_ n, r.good = true ∧ r.Len := by
  unfold grow
  by_cases h : l = []
  · subst h; simp
  · rw [if_neg h]
    have hp : 0 < l.length := List.length_pos_iff.2 h
    have hk : at_ % l.length < l.length := Nat.mod_lt _ hp
    intro r hr
    have e : l.getD (at_ % l.length) default = l[at_ % l.length] := by simp [List.getD_eq_getElem?_getD, hk]
    rw [e] at hr
    rcases List.mem_or_eq_of_mem_set hr with hr | rfl
    · exact ⟨hg r hr, fewR_len (hf r hr)⟩
    · obtain ⟨-, d1, d2⟩ := add_small (few_digits (hg _ (List.getElem_mem hk)) (hf _ (List.getElem_mem hk))) hn
      exact ⟨rwQ_good d1 d2, rwQ_len d1 d2⟩
end Go.Proofs.YtliglilanpfjhaaGreat
