/- The code of one function. -/
import Derived.Test.YtokkkmfbejgccaaCode
import Derived.Test.YtokkkmfbejgccaaCpodiumref37Has
set_option maxRecDepth 100000
namespace Go.Proofs.Ytokkkmfbejgccaa
open Go.Pv
/-- podium/podiumlaw57.RecountRisk -/
noncomputable def C.podiumlaw57_RecountRisk : MFunc := ⟨158, 4, [.tmp 8],
  (.seq (.region [
    ⟨(some 6), none, .box T.apiRatio (.tmp 2)⟩,
    ⟨(some 8), none, .val (.mv (.const (.bool false)))⟩] [])
  (.seq (.seq (.region [
    ⟨(some 29), none, .call (.const (.func (.func F.podiumlaw57_sane) [] [])) []⟩,
    ⟨(some 30), none, .val (.un .not (.tmp 29))⟩] [29])
  (.cond (.tmp 30)
  (.seq (.region [
    ⟨(some 8), none, .val (.mv (.const (.bool false)))⟩] [])
  .ret)
  .skip))
  (.seq (.seq (.region [
    ⟨(some 31), none, .val (.mv (.tmp 0))⟩,
    ⟨(some 32), none, .val (.bin .lss T.int (.tmp 31) (.const (.int 0)))⟩,
    ⟨(some 33), none, .val (.mv (.tmp 32))⟩,
    ⟨(some 34), (some (33, false)), .val (.mv (.tmp 0))⟩,
    ⟨(some 35), (some (33, false)), .val (.bin .gtr T.int (.tmp 34) (.const (.int 6)))⟩,
    ⟨(some 36), none, .val (.pick (.tmp 33) (.const (.bool true)) (.tmp 35))⟩,
    ⟨(some 37), none, .val (.mv (.tmp 36))⟩,
    ⟨(some 38), (some (37, false)), .val (.mv (.tmp 0))⟩,
    ⟨(some 39), (some (37, false)), .val (.load 4 true (.tmp 6))⟩,
    ⟨(some 40), (some (37, false)), .call (.const (.func (.func F.podiumref57_Few) [] [])) [(.tmp 38), (.tmp 39)]⟩,
    ⟨(some 41), (some (37, false)), .val (.un .not (.tmp 40))⟩,
    ⟨(some 42), none, .val (.pick (.tmp 37) (.const (.bool true)) (.tmp 41))⟩] [31, 32, 33, 34, 35, 36, 37, 38, 39, 40, 41])
  (.cond (.tmp 42)
  (.seq (.region [
    ⟨(some 8), none, .val (.mv (.const (.bool true)))⟩] [])
  .ret)
  .skip))
  (.seq (.region [
    ⟨(some 44), none, .val (.mv (.tmp 0))⟩,
    ⟨(some 45), none, .val (.mv (.tmp 1))⟩,
    ⟨(some 46), none, .val (.load 4 true (.tmp 6))⟩,
    ⟨(some 47), none, .call (.const (.func (.func F.recount_Start) [] [])) [(.tmp 44), (.tmp 45), (.tmp 46)]⟩,
    ⟨(some 43), none, .val (.mv (.tmp 47))⟩,
    ⟨(some 48), none, .val (.extract 0 (.tmp 43))⟩,
    ⟨(some 49), none, .val (.extract 1 (.tmp 43))⟩,
    ⟨(some 9), none, .alloc T.apiRecount [(.int 0), (.int 0), (.bool false), .nil, (.bool false), .nil, (.int 0), (.int 0)]⟩,
    ⟨none, none, .store 8 (.tmp 9) (.tmp 48)⟩,
    ⟨(some 10), none, .val (.mv (.tmp 49))⟩] [44, 45, 46, 47, 43, 48, 49])
  (.seq (.seq (.region [
    ⟨(some 50), none, .val (.mv (.tmp 10))⟩,
    ⟨(some 51), none, .val (.bin .neq T.apiErrno (.tmp 50) (.const (.int 0)))⟩] [50])
  (.cond (.tmp 51)
  (.seq (.region [
    ⟨(some 52), none, .val (.load 8 true (.tmp 9))⟩,
    ⟨(some 53), none, .val (.build [(.int 0), (.int 0), (.bool false), .nil, (.bool false), .nil, (.int 0), (.int 0)] [])⟩,
    ⟨(some 54), none, .call (.const (.func (.func F.podiumref57_Same) [] [])) [(.tmp 52), (.tmp 53)]⟩,
    ⟨(some 8), none, .val (.mv (.tmp 54))⟩] [52, 53, 54])
  .ret)
  .skip))
  (.seq (.region [
    ⟨(some 11), none, .val (.mv (.const .nil))⟩] [])
  (.seq (.region [
    ⟨(some 12), none, .val (.mv (.const (.int 0)))⟩] [])
  (.seq (.seq (.region [
    ⟨(some 55), none, .val (.mv (.tmp 0))⟩,
    ⟨(some 56), none, .val (.mv (.const (.int 0)))⟩] [])
  (.block 0 (.loop (.seq (.region [
    ⟨(some 57), none, .val (.bin .lss T.int (.tmp 56) (.tmp 55))⟩] [])
  (.seq (.cond (.tmp 57)
  .skip
  (.exit 0))
  (.seq (.block 1 (.seq (.region [
    ⟨(some 58), none, .val (.mv (.tmp 56))⟩,
    ⟨(some 13), none, .val (.mv (.tmp 58))⟩] [58])
  (.seq (.region [
    ⟨(some 59), none, .val (.mv (.tmp 11))⟩,
    ⟨(some 60), none, .val (.mv (.tmp 3))⟩,
    ⟨(some 61), none, .val (.mv (.tmp 13))⟩,
    ⟨(some 62), none, .val (.bin .shr T.uint8 (.tmp 60) (.tmp 61))⟩,
    ⟨(some 63), none, .val (.bin .and T.uint8 (.tmp 62) (.const (.val (.int .u8 1))))⟩,
    ⟨(some 64), none, .val (.bin .eql T.uint8 (.tmp 63) (.const (.val (.int .u8 0))))⟩,
    ⟨(some 65), none, .val (.buildSlice T.bool 1 [(.bool false)] [(0, 1, (.tmp 64))])⟩,
    ⟨(some 66), none, .append T.bool 1 1 (.tmp 59) (.tmp 65)⟩,
    ⟨(some 11), none, .val (.mv (.tmp 66))⟩] [59, 60, 61, 62, 63, 64, 65, 66])
  (.seq (.region [
    ⟨(some 67), none, .val (.mv (.tmp 11))⟩,
    ⟨(some 68), none, .val (.mv (.tmp 13))⟩,
    ⟨(some 69), none, .val (.indexAddr 1 (.tmp 67) (.tmp 68))⟩,
    ⟨(some 70), none, .val (.load 1 false (.tmp 69))⟩,
    ⟨(some 71), none, .val (.un .not (.tmp 70))⟩] [67, 68, 69, 70])
  (.cond (.tmp 71)
  (.region [
    ⟨(some 72), none, .val (.mv (.tmp 12))⟩,
    ⟨(some 73), none, .val (.bin .add T.int (.tmp 72) (.const (.int 1)))⟩,
    ⟨(some 12), none, .val (.mv (.tmp 73))⟩] [72, 73])
  .skip)))))
  (.region [
    ⟨(some 74), none, .val (.bin .add T.int (.tmp 56) (.const (.int 1)))⟩,
    ⟨(some 56), none, .val (.mv (.tmp 74))⟩] [74])))))))
  (.seq (.seq (.region [
    ⟨(some 75), none, .val (.mv (.tmp 12))⟩,
    ⟨(some 76), none, .val (.mv (.tmp 1))⟩,
    ⟨(some 77), none, .val (.bin .lss T.int (.tmp 75) (.tmp 76))⟩] [75, 76])
  (.cond (.tmp 77)
  (.seq (.region [
    ⟨(some 8), none, .val (.mv (.const (.bool true)))⟩] [])
  .ret)
  .skip))
  (.seq (.region [
    ⟨(some 78), none, .val (.mv (.tmp 0))⟩,
    ⟨(some 79), none, .call (.const (.func (.func F.podiumref41_All) [] [])) [(.tmp 78)]⟩,
    ⟨(some 14), none, .val (.mv (.tmp 79))⟩] [78, 79])
  (.seq (.region [
    ⟨(some 15), none, .val (.mv (.const (.int 0)))⟩] [])
  (.seq (.seq (.region [
    ⟨(some 80), none, .val (.mv (.tmp 14))⟩,
    ⟨(some 81), none, .val (.len (.tmp 80))⟩,
    ⟨(some 82), none, .val (.mv (.const (.int 0)))⟩] [])
  (.block 2 (.loop (.seq (.region [
    ⟨(some 83), none, .val (.bin .lss T.int (.tmp 82) (.tmp 81))⟩] [])
  (.seq (.cond (.tmp 83)
  .skip
  (.exit 2))
  (.seq (.block 3 (.seq (.region [
    ⟨(some 84), none, .val (.indexAddr 1 (.tmp 80) (.tmp 82))⟩,
    ⟨(some 85), none, .val (.load 1 false (.tmp 84))⟩,
    ⟨(some 17), none, .val (.mv (.tmp 85))⟩] [84, 85])
  (.seq (.region [
    ⟨(some 87), none, .val (.load 8 true (.tmp 9))⟩,
    ⟨(some 88), none, .val (.mv (.tmp 17))⟩,
    ⟨(some 89), none, .val (.mv (.tmp 11))⟩,
    ⟨(some 90), none, .call (.const (.func (.func F.recount_Run) [] [])) [(.tmp 87), (.tmp 88), (.tmp 89)]⟩,
    ⟨(some 86), none, .val (.mv (.tmp 90))⟩,
    ⟨(some 91), none, .val (.extract 0 (.tmp 86))⟩,
    ⟨(some 92), none, .val (.extract 1 (.tmp 86))⟩,
    ⟨(some 93), none, .val (.extract 2 (.tmp 86))⟩,
    ⟨(some 18), none, .alloc T.apiRecount [(.int 0), (.int 0), (.bool false), .nil, (.bool false), .nil, (.int 0), (.int 0)]⟩,
    ⟨none, none, .store 8 (.tmp 18) (.tmp 91)⟩,
    ⟨(some 19), none, .val (.mv (.tmp 92))⟩,
    ⟨(some 20), none, .val (.mv (.tmp 93))⟩] [87, 88, 89, 90, 86, 91, 92, 93, 19])
  (.seq (.seq (.region [
    ⟨(some 94), none, .val (.mv (.tmp 20))⟩,
    ⟨(some 95), none, .val (.bin .neq T.apiErrno (.tmp 94) (.const (.int 0)))⟩,
    ⟨(some 96), none, .val (.mv (.tmp 95))⟩,
    ⟨(some 97), (some (96, false)), .val (.fieldAddr 7 (.tmp 18))⟩,
    ⟨(some 98), (some (96, false)), .val (.load 1 false (.tmp 97))⟩,
    ⟨(some 99), (some (96, false)), .val (.bin .eql T.int (.tmp 98) (.const (.int 0)))⟩,
    ⟨(some 100), none, .val (.pick (.tmp 96) (.const (.bool true)) (.tmp 99))⟩] [94, 95, 96, 97, 98, 99])
  (.cond (.tmp 100)
  (.seq (.region [
    ⟨(some 8), none, .val (.mv (.const (.bool false)))⟩] [])
  .ret)
  .skip))
  (.seq (.region [
    ⟨(some 101), none, .val (.fieldAddr 7 (.tmp 18))⟩,
    ⟨(some 102), none, .val (.load 1 false (.tmp 101))⟩,
    ⟨(some 103), none, .val (.bin .eql T.int (.tmp 102) (.const (.int 1)))⟩] [101, 102])
  (.cond (.tmp 103)
  (.region [
    ⟨(some 104), none, .val (.mv (.tmp 15))⟩,
    ⟨(some 105), none, .val (.bin .add T.int (.tmp 104) (.const (.int 1)))⟩,
    ⟨(some 15), none, .val (.mv (.tmp 105))⟩] [104, 105])
  .skip))))))
  (.region [
    ⟨(some 106), none, .val (.bin .add T.int (.tmp 82) (.const (.int 1)))⟩,
    ⟨(some 82), none, .val (.mv (.tmp 106))⟩] [106])))))))
  (.seq (.region [
    ⟨(some 108), none, .val (.mv (.tmp 15))⟩,
    ⟨(some 109), none, .val (.mv (.tmp 14))⟩,
    ⟨(some 110), none, .val (.len (.tmp 109))⟩,
    ⟨(some 111), none, .call (.const (.func (.func F.ratio_Make) [] [])) [(.tmp 108), (.tmp 110)]⟩,
    ⟨(some 107), none, .val (.mv (.tmp 111))⟩,
    ⟨(some 112), none, .val (.extract 0 (.tmp 107))⟩,
    ⟨(some 113), none, .val (.extract 1 (.tmp 107))⟩,
    ⟨(some 21), none, .alloc T.apiRatio [(.bool false), .nil, (.bool false), .nil]⟩,
    ⟨none, none, .store 4 (.tmp 21) (.tmp 112)⟩,
    ⟨(some 22), none, .val (.mv (.tmp 113))⟩] [108, 109, 110, 111, 107, 112, 113])
  (.seq (.region [
    ⟨(some 115), none, .val (.load 4 true (.tmp 21))⟩,
    ⟨(some 116), none, .val (.load 4 true (.tmp 6))⟩,
    ⟨(some 117), none, .call (.const (.func (.func F.ratio_Cmp) [] [])) [(.tmp 115), (.tmp 116)]⟩,
    ⟨(some 114), none, .val (.mv (.tmp 117))⟩,
    ⟨(some 118), none, .val (.extract 0 (.tmp 114))⟩,
    ⟨(some 119), none, .val (.extract 1 (.tmp 114))⟩,
    ⟨(some 23), none, .val (.mv (.tmp 118))⟩,
    ⟨(some 24), none, .val (.mv (.tmp 119))⟩] [115, 116, 117, 114, 118, 119])
  (.seq (.seq (.region [
    ⟨(some 120), none, .val (.mv (.tmp 22))⟩,
    ⟨(some 121), none, .val (.bin .neq T.apiErrno (.tmp 120) (.const (.int 0)))⟩,
    ⟨(some 122), none, .val (.mv (.tmp 121))⟩,
    ⟨(some 123), (some (122, false)), .val (.mv (.tmp 24))⟩,
    ⟨(some 124), (some (122, false)), .val (.bin .neq T.apiErrno (.tmp 123) (.const (.int 0)))⟩,
    ⟨(some 125), none, .val (.pick (.tmp 122) (.const (.bool true)) (.tmp 124))⟩,
    ⟨(some 126), none, .val (.mv (.tmp 125))⟩,
    ⟨(some 127), (some (126, false)), .val (.mv (.tmp 23))⟩,
    ⟨(some 128), (some (126, false)), .val (.bin .gtr T.int (.tmp 127) (.const (.int 0)))⟩,
    ⟨(some 129), none, .val (.pick (.tmp 126) (.const (.bool true)) (.tmp 128))⟩] [120, 121, 122, 123, 124, 125, 126, 127, 128])
  (.cond (.tmp 129)
  (.seq (.region [
    ⟨(some 8), none, .val (.mv (.const (.bool false)))⟩] [])
  .ret)
  .skip))
  (.seq (.seq (.region [
    ⟨(some 130), none, .val (.mv (.tmp 12))⟩,
    ⟨(some 131), none, .val (.mv (.tmp 1))⟩,
    ⟨(some 132), none, .val (.bin .gtr T.int (.tmp 130) (.tmp 131))⟩] [130, 131])
  (.cond (.tmp 132)
  (.seq (.region [
    ⟨(some 8), none, .val (.mv (.const (.bool true)))⟩] [])
  .ret)
  .skip))
  (.seq (.region [
    ⟨(some 134), none, .val (.mv (.tmp 0))⟩,
    ⟨(some 135), none, .val (.mv (.tmp 1))⟩,
    ⟨(some 136), none, .val (.load 4 true (.tmp 6))⟩,
    ⟨(some 137), none, .call (.const (.func (.func F.risk_Need) [] [])) [(.tmp 134), (.tmp 135), (.tmp 136)]⟩,
    ⟨(some 133), none, .val (.mv (.tmp 137))⟩,
    ⟨(some 138), none, .val (.extract 0 (.tmp 133))⟩,
    ⟨(some 139), none, .val (.extract 1 (.tmp 133))⟩,
    ⟨(some 25), none, .val (.mv (.tmp 138))⟩,
    ⟨(some 26), none, .val (.mv (.tmp 139))⟩] [134, 135, 136, 137, 133, 138, 139])
  (.seq (.region [
    ⟨(some 141), none, .val (.mv (.tmp 0))⟩,
    ⟨(some 142), none, .val (.mv (.tmp 1))⟩,
    ⟨(some 143), none, .val (.mv (.tmp 25))⟩,
    ⟨(some 144), none, .call (.const (.func (.func F.risk_Miss) [] [])) [(.tmp 141), (.tmp 142), (.tmp 143)]⟩,
    ⟨(some 140), none, .val (.mv (.tmp 144))⟩,
    ⟨(some 145), none, .val (.extract 0 (.tmp 140))⟩,
    ⟨(some 146), none, .val (.extract 1 (.tmp 140))⟩,
    ⟨(some 27), none, .alloc T.apiRatio [(.bool false), .nil, (.bool false), .nil]⟩,
    ⟨none, none, .store 4 (.tmp 27) (.tmp 145)⟩,
    ⟨(some 28), none, .val (.mv (.tmp 146))⟩] [141, 142, 143, 144, 140, 145, 146])
  (.seq (.region [
    ⟨(some 147), none, .val (.mv (.tmp 26))⟩,
    ⟨(some 148), none, .val (.bin .eql T.apiErrno (.tmp 147) (.const (.int 0)))⟩,
    ⟨(some 149), none, .val (.mv (.tmp 148))⟩,
    ⟨(some 150), (some (149, true)), .val (.mv (.tmp 28))⟩,
    ⟨(some 151), (some (149, true)), .val (.bin .eql T.apiErrno (.tmp 150) (.const (.int 0)))⟩,
    ⟨(some 152), none, .val (.pick (.tmp 149) (.tmp 151) (.const (.bool false)))⟩,
    ⟨(some 153), none, .val (.mv (.tmp 152))⟩,
    ⟨(some 154), (some (153, true)), .val (.load 4 true (.tmp 21))⟩,
    ⟨(some 155), (some (153, true)), .val (.load 4 true (.tmp 27))⟩,
    ⟨(some 156), (some (153, true)), .call (.const (.func (.func F.podiumref10_Same) [] [])) [(.tmp 154), (.tmp 155)]⟩,
    ⟨(some 157), none, .val (.pick (.tmp 153) (.tmp 156) (.const (.bool false)))⟩,
    ⟨(some 8), none, .val (.mv (.tmp 157))⟩] [147, 148, 149, 150, 151, 152, 153, 154, 155, 156, 157])
  .ret)))))))))))))))))))⟩
theorem H.podiumlaw57_RecountRisk : Has P F.podiumlaw57_RecountRisk C.podiumlaw57_RecountRisk := ⟨Try.f6, Try.func6, by kernel_rfl, by kernel_rfl⟩
end Go.Proofs.Ytokkkmfbejgccaa
/- RecountRisk. -/
namespace Go.Proofs.Ytokkkmfbejgccaa
open Go.Pv
set_option maxRecDepth 100000
set_option maxHeartbeats 16000000
theorem xappend_accN {α : Type} {row : List α → List PV} {k : Nat} (hrl : ∀ l, (row l).length = l.length * k) (hra : ∀ l m, row (l ++ m) = row l ++ row m) {T : TypeId} {bytes : Nat} {st : Store} {K : PV → Store → Prop}
    (o : Option (Acc α)) (ho : accOk row k st o) (xs : List α) {new : List PV} {m : Nat} (hnew : row xs = new) (hm : xs.length = m) (hm0 : 0 < m) (hsz : ((accL o).length + m) * bytes ≤ 140737488355328)
    (h : ∀ a : Acc α, a.Ok row k → snew st a.b → a.l = accL o ++ xs → K (.own a.b 0 a.l.length a.cap) ((a.b, .arr T a.R) :: st)) : xappend T bytes k (accP o) new m (accS T st o) K := by
  cases o with
  | none => exact xappend_acc0 hrl xs hnew hm hm0 (by simpa using hsz) fun a' ha' hl' hb' => h a' ha' hb' (by simpa using hl')
  | some a =>
    obtain ⟨ha, hb⟩ := ho
    refine xappend_acc hrl hra ha (by simp) xs hnew hm hsz fun a' ha' hl' hb' => ?_
    have e : sdel a.b (accS T st (some a)) = st := by simp [sdel_of_new hb]
    rw [e] at hb' ⊢
    exact h a' ha' hb' hl'
theorem boolRow_len (l : List Bool) : (boolRow l).length = l.length * 1 := by simp
theorem boolRow_append (l m : List Bool) : boolRow (l ++ m) = boolRow l ++ boolRow m := by simp [boolRow]
theorem acc_get {a : Acc Bool} (ha : a.Ok boolRow 1) {i : Nat} (h : i < a.l.length) : a.R[i]? = some (.bool a.l[i]) := by
  have h1 := congrArg (fun l => l[i]?) ha.row
  simp only [List.getElem?_take, if_pos (show i < a.l.length * 1 by omega)] at h1
  rw [h1]
  exact boolRow_get _ _ h
theorem risk_end {N : Nat} {w : Int} {s1 s2 : Bool} {L1 L2 : List Int} (t1 t2 : Bool) (hE : needE N w s1 L1 s2 L2 = 0) (hl1 : Few3 L1) (hl2 : Few3 L2) (hN : N ≤ 6) {A : List Bool} (hA : A.length = N) (hV : w ≤ A.count false) :
    ∃ (Z : List PV) (c : Int), Z.length = 4 ∧ ¬ 0 < c ∧ (∀ st, Rets P F.ratio_Make [.int ((ords N N []).countP (firstOk (fun x => A.getD x false) (needK N w s1 L1 s2 L2).toNat) : Nat), .int (ords N N []).length] st (.tuple [.agg Z, .int 0]))
      ∧ (∀ st, Rets P F.ratio_Cmp [.agg Z, .agg [.bool s1, intLst t1 L1, .bool s2, intLst t2 L2]] st (.tuple [.int c, .int 0]))
      ∧ ((A.count false : Int) = w → ∀ st, Rets P F.risk_Miss [.int N, .int w, .int (needK N w s1 L1 s2 L2)] st (.tuple [.agg Z, .int 0]))
      ∧ (∀ st, Rets P F.podiumref10_Same [.agg Z, .agg Z] st (.bool true)) := by
  obtain ⟨K0, K1, -⟩ := needK_le (.inl (by omega)) hl1 hl2 hE
  have hE' := hE
  unfold needE at hE'
  split at hE'
  · cases hE'
  rename_i hw
  split at hE'
  · cases hE'
  rename_i hok
  split at hE'
  rotate_left
  · cases hE'
  rename_i hq
  rw [Bool.not_eq_false] at hok
  simp only [wi, Bool.and_eq_false_iff, decide_eq_false_iff_not, not_or, Decidable.not_not] at hw
  obtain ⟨⟨w1, w2⟩, w3, w4⟩ := hw
  obtain ⟨W, rfl⟩ : ∃ W : Nat, w = W := ⟨w.toNat, by omega⟩
  obtain ⟨q, isq⟩ := ratOk_iff.1 hok
  have eV := IsRat.val isq
  rw [eV] at hq
  have eK : needK N W s1 L1 s2 L2 = (needR N W q : Nat) := by
    unfold needK
    rw [if_pos hE, eV]
    rfl
  obtain ⟨K, hK⟩ : ∃ K, K = needR N W q := ⟨_, rfl⟩
  have sp := needR_spec (needR_last (n := N) (w := W) (q := q) (by omega) (by omega) hq.1)
  rw [← hK] at sp
  rw [eK, ← hK]
  have hKN : K ≤ N := sp.1
  have hV2 : W ≤ A.count false := by omega
  have hcl : A.count false ≤ N := by rw [← hA]; exact List.count_le_length
  have pm := part_miss (K := K) hA hKN
  have hle : missR N (A.count false) K ≤ q := Rat.le_trans (missR_wrong hV2 hKN) sp.2.1
  have d1 : dl q.num.natAbs ≤ 3 := by have := isq.n; have e := congrArg List.length isq.L1; unfold Few3 at hl1; unfold dl at *; omega
  have d2 : dl q.den ≤ 3 := by have := isq.d; have e := congrArg List.length isq.L2; unfold Few3 at hl2; unfold dl at *; omega
  obtain ⟨m1, m2⟩ := missR_small (n := N) (w := A.count false) (k := K) (m := 6) hN hKN
  have p6 : 6 ^ K ≤ 46656 := Nat.le_trans (Nat.pow_le_pow_right (by decide) (show K ≤ 6 by omega)) (by decide)
  have e1 : dl (missR N (A.count false) K).num.natAbs ≤ 1 := dl_one (by omega)
  have e2 : dl (missR N (A.count false) K).den ≤ 1 := dl_one (by omega)
  refine ⟨rC false false (missR N (A.count false) K), cmpR (missR N (A.count false) K) q, rfl, by have := cmpR_le.2 hle; omega, fun st => ?_, fun st => ?_, fun e st => ?_, fun st => ?_⟩
  · have l1 := ords_len (n := N) N []
    have l2 := pow6 hN hN
    have l3 : (ords N N []).countP (firstOk (fun x => A.getD x false) K) ≤ (ords N N []).length := List.countP_le_length
    have := ratMake_spec ((ords N N []).countP (firstOk (fun x => A.getD x false) K) : Nat) (ords N N []).length (by rw [ords_total]; exact Nat.pos_iff_ne_zero.1 (fact_pos _)) (by omega) (by omega) (by omega) st
    rw [pm] at this
    exact this
  · rw [isq.cells t1 t2]
    exact ratCmp_spec false false t1 t2 (missR N (A.count false) K) q ⟨by omega, by omega⟩ (few_dl d1 d2) (Nat.le_trans (dl_mul_nat _ _) (by omega)) (Nat.le_trans (dl_mul_nat _ _) (by omega)) st
  · have e : A.count false = W := by omega
    rw [e]
    exact miss_spec N W K (by omega) (by omega) hKN st
  · rw [rC_cells]
    have := same10_spec (decide ((missR N (A.count false) K).num < 0)) false false false (decide ((missR N (A.count false) K).num < 0)) false false false (digs (missR N (A.count false) K).num.natAbs) (digs (missR N (A.count false) K).den) (digs (missR N (A.count false) K).num.natAbs) (digs (missR N (A.count false) K).den) (by unfold dl at e1; omega) (by unfold dl at e2; omega) st
    rw [decide_eq_true rfl, decide_eq_true rfl, decide_eq_true rfl, decide_eq_true rfl] at this
    exact this
theorem risk_law (n w : Int) (s1 t1 s2 t2 : Bool) (L1 L2 : List Int) (m : Int) (_hm : 0 ≤ m ∧ m < 256) (st : Store) :
    Rets P F.podiumlaw57_RecountRisk [.int n, .int w, .agg [.bool s1, intLst t1 L1, .bool s2, intLst t2 L2], .val (.int .u8 m)] st (.bool true) := by
  have cf := few57_spec n s1 t1 s2 t2 L1 L2
  by_cases hn0 : n < 0
  · refine H.podiumlaw57_RecountRisk.pure hmix rfl rfl ?_
    repeat' (first 
     | (with_reducible refine Fresh.intro fun b hb => ?_) <;> (try simp -dsimp -implicitDefEqProofs [*] at hb)
     | (with_reducible refine Rets.xcall (sane_spec _) ?_)
     | (simp -dsimp -implicitDefEqProofs [*]))
  by_cases hn6 : 6 < n
  · refine H.podiumlaw57_RecountRisk.pure hmix rfl rfl ?_
    repeat' (first 
     | (with_reducible refine Fresh.intro fun b hb => ?_) <;> (try simp -dsimp -implicitDefEqProofs [*] at hb)
     | (with_reducible refine Rets.xcall (sane_spec _) ?_)
     | (simp -dsimp -implicitDefEqProofs [*]))
  by_cases hf : few57 n L1 L2 = true
  · rw [hf] at cf
    have fw := few57_few (r := ⟨n, w, s1, L1, s2, L2, 0, 0⟩) hf
    have cs := start_spec n w s1 t1 s2 t2 L1 L2 fw.n fw.l1 fw.l2
    have cn := need_spec n w fw.n s1 t1 s2 t2 L1 L2 fw.l1 fw.l2
    have lX : ∀ R : Rc, (R.enc false false).length = 8 := fun R => rfl
    have fX := fun R : Rc => cells_sub (lX R)
    have fa := fun R : Rc => cells_all (c := [.int 0, .int 0, .bool false, .nil, .bool false, .nil, .int 0, .int 0]) (V := R.enc false false) rfl
    by_cases hE : needE n w s1 L1 s2 L2 = 0
    · obtain ⟨N, rfl⟩ : ∃ N : Nat, n = N := ⟨n.toNat, by omega⟩
      obtain ⟨K0, K1, -⟩ := needK_le fw.n fw.l1 fw.l2 hE
      obtain ⟨r, hr⟩ : ∃ r, r = startR N w s1 L1 s2 L2 := ⟨_, rfl⟩
      rw [← hr] at cs
      rw [hE] at cs cn
      have kR : Hid (r = startR N w s1 L1 s2 L2 ∧ needE N w s1 L1 s2 L2 = 0 ∧ few57 N L1 L2 = true) := ⟨hr, hE, hf⟩
      have fr := fX r
      have lr := lX r
      have far := fa r
      refine H.podiumlaw57_RecountRisk.pure hmix rfl rfl ?_
      clear hr hE hf fw lX fX fa
      repeat' (first 
       | (with_reducible refine Fresh.intro fun b hb => ?_) <;> (try simp -dsimp -implicitDefEqProofs [*] at hb)
       | (with_reducible refine Rets.xcall (sane_spec _) ?_)
       | (with_reducible refine Rets.xcall (cf _) ?_)
       | (with_reducible refine Rets.xcall (cs _) ?_)
       | (simp -dsimp -implicitDefEqProofs [*]))
      revert b
      revert b
      intro p6 hp6 p9 hp9
      have kv : Hid (∀ y : Nat × Option (Acc Bool), (y.1 ≤ N ∧ accOk boolRow 1 ((p9, .arr T.apiRecount (r.enc false false)) :: (p6, .arr T.apiRatio [.bool s1, intLst t1 L1, .bool s2, intLst t2 L2]) :: st) y.2 ∧ (accL y.2).length = y.1) → y.1 = N →
          View ⟨[(56, .int y.1), (55, .int N), (12, .int ((accL y.2).count false)), (11, accP y.2), (9, .ptr p9 0), (8, .bool false), (6, .ptr p6 0), (0, .int N), (1, .int w), (3, .val (.int .u8 m))], accS T.bool ((p9, .arr T.apiRecount (r.enc false false)) :: (p6, .arr T.apiRatio [.bool s1, intLst t1 L1, .bool s2, intLst t2 L2]) :: st) y.2⟩
            ⟨[(56, .int y.1), (55, .int N), (12, .int ((accL y.2).count false)), (11, boolLst false (accL y.2)), (9, .ptr p9 0), (8, .bool false), (6, .ptr p6 0), (0, .int N), (1, .int w), (3, .val (.int .u8 m))], (p9, .arr T.apiRecount (r.enc false false)) :: (p6, .arr T.apiRatio [.bool s1, intLst t1 L1, .bool s2, intLst t2 L2]) :: st⟩) := ⟨fun y h1 h2 => by
        obtain ⟨k0, o⟩ := y
        exact View.acc rfl h1.2.1 (.refl _) (by simp)⟩
      refine xloop_fz (fun y : Nat × Option (Acc Bool) => [(56, .int y.1), (55, .int N), (12, .int ((accL y.2).count false)), (11, accP y.2), (9, .ptr p9 0), (8, .bool false), (6, .ptr p6 0), (0, .int N), (1, .int w), (3, .val (.int .u8 m))])
        (fun y => accS T.bool ((p9, .arr T.apiRecount (r.enc false false)) :: (p6, .arr T.apiRatio [.bool s1, intLst t1 L1, .bool s2, intLst t2 L2]) :: st) y.2)
        (fun y => y.1 ≤ N ∧ accOk boolRow 1 ((p9, .arr T.apiRecount (r.enc false false)) :: (p6, .arr T.apiRatio [.bool s1, intLst t1 L1, .bool s2, intLst t2 L2]) :: st) y.2 ∧ (accL y.2).length = y.1) (fun y => N - y.1) (fun y => y.1 = N)
        (fun y => [(56, .int y.1), (55, .int N), (12, .int ((accL y.2).count false)), (11, boolLst false (accL y.2)), (9, .ptr p9 0), (8, .bool false), (6, .ptr p6 0), (0, .int N), (1, .int w), (3, .val (.int .u8 m))])
        (fun y => (p9, .arr T.apiRecount (r.enc false false)) :: (p6, .arr T.apiRatio [.bool s1, intLst t1 L1, .bool s2, intLst t2 L2]) :: st)
        kv.out (0, none) ⟨Nat.zero_le _, trivial, rfl⟩ (by simp) (by simp) ?_ ?_
      · rintro ⟨k0, o⟩ ⟨-, -, hA⟩ hfin
        simp only at hA hfin ⊢
        subst hfin
        obtain ⟨A, eA⟩ : ∃ A, A = accL o := ⟨_, rfl⟩
        rw [← eA] at hA ⊢
        clear eA kv
        by_cases hV : (A.count false : Int) < w
        · repeat' (simp -dsimp -implicitDefEqProofs [*])
        obtain ⟨hr, hE, hf⟩ := kR.out
        have fw := few57_few (r := ⟨k0, w, s1, L1, s2, L2, 0, 0⟩) hf
        obtain ⟨Z, c, lZ, hc, cM, cC, cI, cS⟩ := risk_end t1 t2 hE fw.l1 fw.l2 (by omega) hA (by omega)
        have rf : r.Few := by rw [hr, (startR_ok hE).1]; exact ⟨fw.n, fw.l1, fw.l2⟩
        have ca := all_spec k0 (by omega)
        obtain ⟨K, hK⟩ : ∃ K, K = needK k0 w s1 L1 s2 L2 := ⟨_, rfl⟩
        have hrun : ∀ i (h : i < (ords k0 k0 []).length), ∃ (X : Rc) (N : Nat), (∀ st, Rets P F.recount_Run [.agg (r.enc false false), .list false (nRow (ords k0 k0 [])[i]) (ords k0 k0 [])[i].length, boolLst false A] st (.tuple [.agg (X.enc false false), .int N, .int 0])) ∧ X.s = if firstOk (fun x => A.getD x false) K.toNat (ords k0 k0 [])[i] = true then 1 else 2 := fun i h => by
          obtain ⟨X, N, e1, e2⟩ := run_order hE K1 hA (List.getElem_mem h)
          refine ⟨X, N, fun st => ?_, by rw [hK]; exact e2⟩
          have c := run_spec r rf false false false false (natI (ords k0 k0 [])[i]) A (by rw [natI_len, (natI_order (List.getElem_mem h)).2.1]; omega) st
          rw [hr] at c ⊢
          rw [e1] at c
          unfold intLst at c
          rw [natI_len] at c
          exact c
        have ol : (ords k0 k0 []).length ≤ 46656 := Nat.le_trans (ords_len _ _) (pow6 (by omega) (by omega))
        rw [← hK] at cM cI cn K0
        obtain ⟨p, hp⟩ : ∃ p, p = firstOk (fun x => A.getD x false) K.toNat := ⟨_, rfl⟩
        rw [← hp] at cM hrun
        obtain ⟨OL, hOL⟩ : ∃ OL, OL = ords k0 k0 [] := ⟨_, rfl⟩
        rw [← hOL] at cM ca hrun ol
        have krun : Hid _ := ⟨hrun⟩
        have kM : Hid _ := ⟨cM⟩
        clear hK hp hOL hr hE hf fw rf kR K1 cf cs hrun cM
        have lo : (oRow OL).length = OL.length := by simp [oRow]
        have go : Hid (∀ i (h : i < OL.length) (h2 : i < (oRow OL).length), (oRow OL)[i]'h2 = .list false (nRow OL[i]) OL[i].length) := ⟨fun i h _ => by simp [oRow]⟩
        repeat' (first 
         | (with_reducible refine Rets.xcall (ca _) ?_)
         | (simp -dsimp -implicitDefEqProofs [*]))
        refine xloop_for (fun y : Nat => [(82, .int y), (81, .int OL.length), (80, .list false (oRow OL) OL.length), (15, .int ((OL.take y).countP p : Nat)), (14, .list false (oRow OL) OL.length), (12, .int (A.count false)), (11, boolLst false A), (9, .ptr p9 0), (8, .bool false), (6, .ptr p6 0), (0, .int k0), (1, .int w)])
          (fun _ => (p9, .arr T.apiRecount (r.enc false false)) :: (p6, .arr T.apiRatio [.bool s1, intLst t1 L1, .bool s2, intLst t2 L2]) :: st) (fun y => y ≤ OL.length) (fun y => OL.length - y) 0 (Nat.zero_le _) (by simp) (.refl _) ?_
        intro i hi
        by_cases hiO : i < OL.length
        · obtain ⟨X, N, cr, hs⟩ := krun.out i hiO
          have g1 := go.out i hiO
          have x5 := wrap_succ (n := i) (by omega)
          have hcp : (OL.take i).countP p ≤ i := Nat.le_trans List.countP_le_length (by rw [List.length_take]; omega)
          have x6 := wrap_succ (n := (OL.take i).countP p) (by omega)
          have e1 : (OL.take (i + 1)).countP p = (OL.take i).countP p + if p OL[i] = true then 1 else 0 := by
            rw [List.take_succ_eq_append_getElem hiO, List.countP_append]
            simp
          obtain ⟨O, hO⟩ : ∃ O, O = OL[i] := ⟨_, rfl⟩
          rw [← hO] at cr g1 hs e1
          obtain ⟨Y, hY⟩ : ∃ Y, Y = X.enc false false := ⟨_, rfl⟩
          rw [← hY] at cr
          have lY : Y.length = 8 := by rw [hY]; rfl
          have fY := cells_sub lY
          have aY : setCells [.int 0, .int 0, .bool false, .nil, .bool false, .nil, .int 0, .int 0] 0 Y = Y := by rw [hY]; exact cells_all rfl
          have g7 : ∀ h : 7 < Y.length, Y[7]'h = .int X.s := by subst hY; exact fun _ => rfl
          have k1 : Hid _ := ⟨e1⟩
          clear hY hO go krun kM cC cI cS ca e1 cn lZ hc
          by_cases hpO : p O = true
          · rw [if_pos hpO] at hs
            rw [hs] at g7
            have k2 := k1.out
            rw [if_pos hpO] at k2
            have k2 : Hid _ := ⟨k2⟩
            clear k1 hs hpO
            repeat' (first 
             | (with_reducible refine Fresh.intro fun b hb => ?_) <;> (try simp -dsimp -implicitDefEqProofs [*] at hb)
             | (with_reducible refine Rets.xcall (cr _) ?_)
             | (simp -dsimp -implicitDefEqProofs [*]))
            exact Next.intro (i + 1) hiO (by omega) (by simp [k2.out]) (by repeat' (first | exact StLe.refl _ | (refine StLe_cons (by simp [*]; done) ?_) | (refine StLe_fresh (by simp [*]; done) ?_)))
          · rw [if_neg hpO] at hs
            rw [hs] at g7
            have k2 := k1.out
            rw [if_neg hpO] at k2
            have k2 : Hid _ := ⟨k2⟩
            clear k1 hs hpO
            repeat' (first 
             | (with_reducible refine Fresh.intro fun b hb => ?_) <;> (try simp -dsimp -implicitDefEqProofs [*] at hb)
             | (with_reducible refine Rets.xcall (cr _) ?_)
             | (simp -dsimp -implicitDefEqProofs [*]))
            exact Next.intro (i + 1) hiO (by omega) (by simp [k2.out]) (by repeat' (first | exact StLe.refl _ | (refine StLe_cons (by simp [*]; done) ?_) | (refine StLe_fresh (by simp [*]; done) ?_)))
        · have e : i = OL.length := by omega
          subst e
          have cM := kM.out
          have et : OL.take OL.length = OL := List.take_length
          have fZ := cells_sub lZ
          have aZ : setCells [.bool false, .nil, .bool false, .nil] 0 Z = Z := setCells_all Z _ lZ
          clear go krun kM ca
          by_cases hVw : (w : Int) < A.count false
          · clear cI
            repeat' (first 
             | (with_reducible refine Fresh.intro fun b hb => ?_) <;> (try simp -dsimp -implicitDefEqProofs [*] at hb)
             | (with_reducible refine Rets.xcall (cM _) ?_)
             | (with_reducible refine Rets.xcall (cC _) ?_)
             | (simp -dsimp -implicitDefEqProofs [*]))
          · have cI := cI (by omega)
            repeat' (first 
             | (with_reducible refine Fresh.intro fun b hb => ?_) <;> (try simp -dsimp -implicitDefEqProofs [*] at hb)
             | (with_reducible refine Rets.xcall (cM _) ?_)
             | (with_reducible refine Rets.xcall (cC _) ?_)
             | (with_reducible refine Rets.xcall (cn _) ?_)
             | (with_reducible refine Rets.xcall (cI _) ?_)
             | (with_reducible refine Rets.xcall (cS _) ?_)
             | (simp -dsimp -implicitDefEqProofs [*]))
      · rintro ⟨k0, o⟩ ⟨hk1, ho, hlA⟩ hfin
        simp only at hk1 ho hlA hfin ⊢
        have x5 := wrap_succ (n := k0) (by omega)
        have hkN : k0 < N := by omega
        have hcnt : (accL o).count false ≤ k0 := by rw [← hlA]; exact List.count_le_length
        have x6 := wrap_succ (n := (accL o).count false) (by omega)
        repeat' (first 
         | (with_reducible refine Lit.imm ?_)
         | (simp -dsimp -implicitDefEqProofs [-xappend_list, *]))
        refine xappend_accN boolRow_len boolRow_append o ho [_] rfl rfl (by omega) (by rw [hlA]; omega) fun a ha hab hal => ?_
        obtain ⟨v, hv0⟩ : ∃ v, a.l = accL o ++ [v] := ⟨_, hal⟩
        have hla : a.l.length = k0 + 1 := by rw [hv0, List.length_append, hlA]; rfl
        have gR : a.R[k0]? = some (.bool v) := by
          rw [acc_get ha (show k0 < a.l.length by omega)]
          simp [hv0, ← hlA]
        have hv : Hid _ := ⟨hv0⟩
        clear hal hv0
        cases v with
        | true =>
          repeat' (first 
           | ((with_reducible refine and_keep ?_ fun hk => ?_); omega)
           | (simp -dsimp -implicitDefEqProofs [-xappend_list, *]))
          have hcl : a.l.count false = (accL o).count false := by rw [hv.out]; simp
          exact NextF.intro kv.out (k0 + 1, some a) ⟨hkN, ⟨ha, hab⟩, hla⟩ (by simp only; omega) (by simp [hla, hcl]) (by simp)
        | false =>
          repeat' (first 
           | ((with_reducible refine and_keep ?_ fun hk => ?_); omega)
           | (simp -dsimp -implicitDefEqProofs [-xappend_list, *]))
          have hcl : a.l.count false = (accL o).count false + 1 := by rw [hv.out]; simp
          exact NextF.intro kv.out (k0 + 1, some a) ⟨hkN, ⟨ha, hab⟩, hla⟩ (by simp only; omega) (by simp [hla, hcl]) (by simp)
    · have cS : ∀ st, Rets P F.podiumref57_Same [.agg ((startR n w s1 L1 s2 L2).enc false false), .agg [.int 0, .int 0, .bool false, .nil, .bool false, .nil, .int 0, .int 0]] st (.bool true) := by
        unfold startR
        rw [if_neg hE]
        exact same57_zero
      refine H.podiumlaw57_RecountRisk.pure hmix rfl rfl ?_
      repeat' (first 
       | (with_reducible refine Fresh.intro fun b hb => ?_) <;> (try simp -dsimp -implicitDefEqProofs [*] at hb)
       | (with_reducible refine Rets.xcall (sane_spec _) ?_)
       | (with_reducible refine Rets.xcall (cf _) ?_)
       | (with_reducible refine Rets.xcall (cs _) ?_)
       | (with_reducible refine Rets.xcall (cS _) ?_)
       | (simp -dsimp -implicitDefEqProofs [*]))
  · rw [Bool.not_eq_true] at hf
    rw [hf] at cf
    refine H.podiumlaw57_RecountRisk.pure hmix rfl rfl ?_
    repeat' (first 
     | (with_reducible refine Fresh.intro fun b hb => ?_) <;> (try simp -dsimp -implicitDefEqProofs [*] at hb)
     | (with_reducible refine Rets.xcall (sane_spec _) ?_)
     | (with_reducible refine Rets.xcall (cf _) ?_)
     | (simp -dsimp -implicitDefEqProofs [*]))
end Go.Proofs.Ytokkkmfbejgccaa
