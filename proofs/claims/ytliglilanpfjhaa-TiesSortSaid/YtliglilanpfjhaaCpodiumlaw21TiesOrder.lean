/- The code of one function. -/
import Derived.Test.YtliglilanpfjhaaCode
import Derived.Test.YtliglilanpfjhaaS21ZQ
set_option maxRecDepth 100000
namespace Go.Proofs.Ytliglilanpfjhaa
open Go.Pv
/-- podium/podiumlaw21.TiesOrder -/
noncomputable def C.podiumlaw21_TiesOrder : MFunc := ⟨150, 4, [.tmp 8],
  (.seq (.region [
    ⟨(some 5), none, .box T.apiKeyed (.tmp 1)⟩,
    ⟨(some 6), none, .box T.apiKeyed (.tmp 2)⟩,
    ⟨(some 7), none, .box T.apiKeyed (.tmp 3)⟩,
    ⟨(some 8), none, .val (.mv (.const (.bool false)))⟩] [])
  (.seq (.seq (.region [
    ⟨(some 24), none, .call (.const (.func (.func F.podiumlaw21_sane) [] [])) []⟩,
    ⟨(some 25), none, .val (.un .not (.tmp 24))⟩] [24])
  (.cond (.tmp 25)
  (.seq (.region [
    ⟨(some 8), none, .val (.mv (.const (.bool false)))⟩] [])
  .ret)
  .skip))
  (.seq (.seq (.region [
    ⟨(some 26), none, .val (.mv (.tmp 0))⟩,
    ⟨(some 27), none, .val (.load 10 true (.tmp 5))⟩,
    ⟨(some 28), none, .val (.load 10 true (.tmp 6))⟩,
    ⟨(some 29), none, .val (.load 10 true (.tmp 7))⟩,
    ⟨(some 30), none, .val (.buildSlice T.apiKeyed 3 [(.int 0), (.bool false), .nil, (.bool false), .nil, .nil, .nil, (.int 0), (.int 0), (.int 0), (.int 0), (.bool false), .nil, (.bool false), .nil, .nil, .nil, (.int 0), (.int 0), (.int 0), (.int 0), (.bool false), .nil, (.bool false), .nil, .nil, .nil, (.int 0), (.int 0), (.int 0)] [(0, 10, (.tmp 27)), (10, 10, (.tmp 28)), (20, 10, (.tmp 29))])⟩,
    ⟨(some 31), none, .call (.const (.func (.func F.podiumlaw21_right) [] [])) [(.tmp 26), (.tmp 30)]⟩,
    ⟨(some 32), none, .val (.un .not (.tmp 31))⟩] [26, 27, 28, 29, 30, 31])
  (.cond (.tmp 32)
  (.seq (.region [
    ⟨(some 8), none, .val (.mv (.const (.bool true)))⟩] [])
  .ret)
  .skip))
  (.seq (.region [
    ⟨(some 34), none, .val (.mv (.tmp 0))⟩,
    ⟨(some 35), none, .val (.load 10 true (.tmp 5))⟩,
    ⟨(some 36), none, .val (.load 10 true (.tmp 6))⟩,
    ⟨(some 37), none, .call (.const (.func (.func F.ties_Compare) [] [])) [(.tmp 34), (.tmp 35), (.tmp 36)]⟩,
    ⟨(some 33), none, .val (.mv (.tmp 37))⟩,
    ⟨(some 38), none, .val (.extract 0 (.tmp 33))⟩,
    ⟨(some 39), none, .val (.extract 1 (.tmp 33))⟩,
    ⟨(some 40), none, .val (.extract 2 (.tmp 33))⟩,
    ⟨(some 9), none, .val (.mv (.tmp 38))⟩,
    ⟨(some 10), none, .val (.mv (.tmp 39))⟩,
    ⟨(some 11), none, .val (.mv (.tmp 40))⟩] [34, 35, 36, 37, 33, 38, 39, 40])
  (.seq (.region [
    ⟨(some 42), none, .val (.mv (.tmp 0))⟩,
    ⟨(some 43), none, .val (.load 10 true (.tmp 6))⟩,
    ⟨(some 44), none, .val (.load 10 true (.tmp 5))⟩,
    ⟨(some 45), none, .call (.const (.func (.func F.ties_Compare) [] [])) [(.tmp 42), (.tmp 43), (.tmp 44)]⟩,
    ⟨(some 41), none, .val (.mv (.tmp 45))⟩,
    ⟨(some 46), none, .val (.extract 0 (.tmp 41))⟩,
    ⟨(some 47), none, .val (.extract 1 (.tmp 41))⟩,
    ⟨(some 48), none, .val (.extract 2 (.tmp 41))⟩,
    ⟨(some 12), none, .val (.mv (.tmp 46))⟩,
    ⟨(some 13), none, .val (.mv (.tmp 47))⟩,
    ⟨(some 14), none, .val (.mv (.tmp 48))⟩] [42, 43, 44, 45, 41, 46, 47, 48])
  (.seq (.region [
    ⟨(some 50), none, .val (.mv (.tmp 0))⟩,
    ⟨(some 51), none, .val (.load 10 true (.tmp 6))⟩,
    ⟨(some 52), none, .val (.load 10 true (.tmp 7))⟩,
    ⟨(some 53), none, .call (.const (.func (.func F.ties_Compare) [] [])) [(.tmp 50), (.tmp 51), (.tmp 52)]⟩,
    ⟨(some 49), none, .val (.mv (.tmp 53))⟩,
    ⟨(some 54), none, .val (.extract 0 (.tmp 49))⟩,
    ⟨(some 55), none, .val (.extract 1 (.tmp 49))⟩,
    ⟨(some 56), none, .val (.extract 2 (.tmp 49))⟩,
    ⟨(some 15), none, .val (.mv (.tmp 54))⟩,
    ⟨(some 16), none, .val (.mv (.tmp 55))⟩,
    ⟨(some 17), none, .val (.mv (.tmp 56))⟩] [50, 51, 52, 53, 49, 54, 55, 56, 16])
  (.seq (.region [
    ⟨(some 58), none, .val (.mv (.tmp 0))⟩,
    ⟨(some 59), none, .val (.load 10 true (.tmp 5))⟩,
    ⟨(some 60), none, .val (.load 10 true (.tmp 7))⟩,
    ⟨(some 61), none, .call (.const (.func (.func F.ties_Compare) [] [])) [(.tmp 58), (.tmp 59), (.tmp 60)]⟩,
    ⟨(some 57), none, .val (.mv (.tmp 61))⟩,
    ⟨(some 62), none, .val (.extract 0 (.tmp 57))⟩,
    ⟨(some 63), none, .val (.extract 1 (.tmp 57))⟩,
    ⟨(some 64), none, .val (.extract 2 (.tmp 57))⟩,
    ⟨(some 18), none, .val (.mv (.tmp 62))⟩,
    ⟨(some 19), none, .val (.mv (.tmp 63))⟩,
    ⟨(some 20), none, .val (.mv (.tmp 64))⟩] [58, 59, 60, 61, 57, 62, 63, 64, 19])
  (.seq (.region [
    ⟨(some 66), none, .val (.mv (.tmp 0))⟩,
    ⟨(some 67), none, .val (.load 10 true (.tmp 5))⟩,
    ⟨(some 68), none, .val (.load 10 true (.tmp 5))⟩,
    ⟨(some 69), none, .call (.const (.func (.func F.ties_Compare) [] [])) [(.tmp 66), (.tmp 67), (.tmp 68)]⟩,
    ⟨(some 65), none, .val (.mv (.tmp 69))⟩,
    ⟨(some 70), none, .val (.extract 0 (.tmp 65))⟩,
    ⟨(some 71), none, .val (.extract 1 (.tmp 65))⟩,
    ⟨(some 72), none, .val (.extract 2 (.tmp 65))⟩,
    ⟨(some 21), none, .val (.mv (.tmp 70))⟩,
    ⟨(some 22), none, .val (.mv (.tmp 71))⟩,
    ⟨(some 23), none, .val (.mv (.tmp 72))⟩] [66, 67, 68, 69, 65, 70, 71, 72])
  (.seq (.seq (.region [
    ⟨(some 73), none, .val (.mv (.tmp 11))⟩,
    ⟨(some 74), none, .val (.bin .neq T.apiErrno (.tmp 73) (.const (.int 0)))⟩,
    ⟨(some 75), none, .val (.mv (.tmp 74))⟩,
    ⟨(some 76), (some (75, false)), .val (.mv (.tmp 14))⟩,
    ⟨(some 77), (some (75, false)), .val (.bin .neq T.apiErrno (.tmp 76) (.const (.int 0)))⟩,
    ⟨(some 78), none, .val (.pick (.tmp 75) (.const (.bool true)) (.tmp 77))⟩,
    ⟨(some 79), none, .val (.mv (.tmp 78))⟩,
    ⟨(some 80), (some (79, false)), .val (.mv (.tmp 17))⟩,
    ⟨(some 81), (some (79, false)), .val (.bin .neq T.apiErrno (.tmp 80) (.const (.int 0)))⟩,
    ⟨(some 82), none, .val (.pick (.tmp 79) (.const (.bool true)) (.tmp 81))⟩,
    ⟨(some 83), none, .val (.mv (.tmp 82))⟩,
    ⟨(some 84), (some (83, false)), .val (.mv (.tmp 20))⟩,
    ⟨(some 85), (some (83, false)), .val (.bin .neq T.apiErrno (.tmp 84) (.const (.int 0)))⟩,
    ⟨(some 86), none, .val (.pick (.tmp 83) (.const (.bool true)) (.tmp 85))⟩,
    ⟨(some 87), none, .val (.mv (.tmp 86))⟩,
    ⟨(some 88), (some (87, false)), .val (.mv (.tmp 23))⟩,
    ⟨(some 89), (some (87, false)), .val (.bin .neq T.apiErrno (.tmp 88) (.const (.int 0)))⟩,
    ⟨(some 90), none, .val (.pick (.tmp 87) (.const (.bool true)) (.tmp 89))⟩] [73, 74, 75, 76, 77, 78, 79, 80, 81, 82, 83, 84, 85, 86, 87, 88, 89])
  (.cond (.tmp 90)
  (.seq (.region [
    ⟨(some 8), none, .val (.mv (.const (.bool false)))⟩] [])
  .ret)
  .skip))
  (.seq (.seq (.region (
    ⟨(some 91), none, .val (.mv (.tmp 9))⟩ ::
    ⟨(some 92), none, .val (.bin .lss T.int (.tmp 91) (.const (.int (-1))))⟩ ::
    ⟨(some 93), none, .val (.mv (.tmp 92))⟩ ::
    ⟨(some 94), (some (93, false)), .val (.mv (.tmp 9))⟩ ::
    ⟨(some 95), (some (93, false)), .val (.bin .gtr T.int (.tmp 94) (.const (.int 1)))⟩ ::
    ⟨(some 96), none, .val (.pick (.tmp 93) (.const (.bool true)) (.tmp 95))⟩ ::
    ⟨(some 97), none, .val (.mv (.tmp 96))⟩ ::
    ⟨(some 98), (some (97, false)), .val (.mv (.tmp 12))⟩ ::
    ⟨(some 99), (some (97, false)), .val (.mv (.tmp 9))⟩ ::
    ⟨(some 100), (some (97, false)), .val (.un .neg (.tmp 99))⟩ ::
    ⟨(some 101), (some (97, false)), .val (.bin .neq T.int (.tmp 98) (.tmp 100))⟩ ::
    ⟨(some 102), none, .val (.pick (.tmp 97) (.const (.bool true)) (.tmp 101))⟩ ::
    ⟨(some 103), none, .val (.mv (.tmp 102))⟩ ::
    ⟨(some 104), (some (103, false)), .val (.mv (.tmp 10))⟩ ::
    ⟨(some 105), (some (103, false)), .val (.mv (.tmp 13))⟩ ::
    ⟨(some 106), (some (103, false)), .val (.bin .neq T.int (.tmp 104) (.tmp 105))⟩ ::
    ⟨(some 107), none, .val (.pick (.tmp 103) (.const (.bool true)) (.tmp 106))⟩ ::
    ⟨(some 108), none, .val (.mv (.tmp 107))⟩ ::
    ⟨(some 109), (some (108, false)), .val (.mv (.tmp 10))⟩ ::
    ⟨(some 110), (some (108, false)), .val (.bin .lss T.int (.tmp 109) (.const (.int (-1))))⟩ ::
    ⟨(some 111), none, .val (.pick (.tmp 108) (.const (.bool true)) (.tmp 110))⟩ ::
    ⟨(some 112), none, .val (.mv (.tmp 111))⟩ ::
    ⟨(some 113), (some (112, false)), .val (.mv (.tmp 10))⟩ ::
    ⟨(some 114), (some (112, false)), .val (.mv (.tmp 0))⟩ ::
    ⟨(some 115), (some (112, false)), .val (.len (.tmp 114))⟩ ::
    ⟨(some 116), (some (112, false)), .val (.bin .gtr T.int (.tmp 113) (.tmp 115))⟩ ::
    ⟨(some 117), none, .val (.pick (.tmp 112) (.const (.bool true)) (.tmp 116))⟩ ::
    ⟨(some 118), none, .val (.mv (.tmp 117))⟩ ::
    ⟨(some 119), (some (118, false)), .val (.mv (.tmp 10))⟩ ::
    ⟨(some 120), (some (118, false)), .val (.bin .eql T.int (.tmp 119) (.const (.int (-1))))⟩ ::
    ⟨(some 121), (some (118, false)), .val (.mv (.tmp 9))⟩ ::
    ⟨(some 122), (some (118, false)), .val (.bin .eql T.int (.tmp 121) (.const (.int 0)))⟩ ::
    ⟨(some 123), (some (118, false)), .val (.eqBool true (.tmp 120) (.tmp 122))⟩ ::
    ⟨(some 124), none, .val (.pick (.tmp 118) (.const (.bool true)) (.tmp 123))⟩ ::
    ⟨(some 125), none, .val (.mv (.tmp 124))⟩ ::
    ⟨(some 126), (some (125, false)), .val (.mv (.tmp 21))⟩ ::
    ⟨(some 127), (some (125, false)), .val (.bin .neq T.int (.tmp 126) (.const (.int 0)))⟩ ::
    ⟨(some 128), none, .val (.pick (.tmp 125) (.const (.bool true)) (.tmp 127))⟩ ::
    ⟨(some 129), none, .val (.mv (.tmp 128))⟩ ::
    ⟨(some 130), (some (129, false)), .val (.mv (.tmp 22))⟩ ::
    ⟨(some 131), (some (129, false)), .val (.bin .neq T.int (.tmp 130) (.const (.int (-1))))⟩ ::
    ⟨(some 132), none, .val (.pick (.tmp 129) (.const (.bool true)) (.tmp 131))⟩ :: []) (91 :: 92 :: 93 :: 94 :: 95 :: 96 :: 97 :: 98 :: 99 :: 100 :: 101 :: 102 :: 103 :: 104 :: 105 :: 106 :: 107 :: 108 :: 109 :: 110 :: 111 :: 112 :: 113 :: 114 :: 115 :: 116 :: 117 :: 118 :: 119 :: 120 :: 121 :: 122 :: 123 :: 124 :: 125 :: 126 :: 127 :: 128 :: 129 :: 130 :: 131 :: []))
  (.cond (.tmp 132)
  (.seq (.region [
    ⟨(some 8), none, .val (.mv (.const (.bool false)))⟩] [])
  .ret)
  .skip))
  (.seq (.seq (.region [
    ⟨(some 133), none, .val (.mv (.tmp 9))⟩,
    ⟨(some 134), none, .val (.bin .eql T.int (.tmp 133) (.const (.int 0)))⟩] [133])
  (.cond (.tmp 134)
  (.seq (.region [
    ⟨(some 135), none, .val (.mv (.tmp 18))⟩,
    ⟨(some 136), none, .val (.mv (.tmp 15))⟩,
    ⟨(some 137), none, .val (.bin .eql T.int (.tmp 135) (.tmp 136))⟩,
    ⟨(some 8), none, .val (.mv (.tmp 137))⟩] [135, 136, 137])
  .ret)
  .skip))
  (.seq (.region [
    ⟨(some 138), none, .val (.mv (.tmp 15))⟩,
    ⟨(some 139), none, .val (.mv (.tmp 9))⟩,
    ⟨(some 140), none, .val (.bin .neq T.int (.tmp 138) (.tmp 139))⟩,
    ⟨(some 141), none, .val (.mv (.tmp 140))⟩,
    ⟨(some 142), (some (141, true)), .val (.mv (.tmp 15))⟩,
    ⟨(some 143), (some (141, true)), .val (.bin .neq T.int (.tmp 142) (.const (.int 0)))⟩,
    ⟨(some 144), none, .val (.pick (.tmp 141) (.tmp 143) (.const (.bool false)))⟩,
    ⟨(some 145), none, .val (.mv (.tmp 144))⟩,
    ⟨(some 146), (some (145, false)), .val (.mv (.tmp 18))⟩,
    ⟨(some 147), (some (145, false)), .val (.mv (.tmp 9))⟩,
    ⟨(some 148), (some (145, false)), .val (.bin .eql T.int (.tmp 146) (.tmp 147))⟩,
    ⟨(some 149), none, .val (.pick (.tmp 145) (.const (.bool true)) (.tmp 148))⟩,
    ⟨(some 8), none, .val (.mv (.tmp 149))⟩] [138, 139, 140, 141, 142, 143, 144, 145, 146, 147, 148, 149])
  .ret))))))))))))⟩
theorem H.podiumlaw21_TiesOrder : Has P F.podiumlaw21_TiesOrder C.podiumlaw21_TiesOrder := ⟨Try.f3, Try.func3, by kernel_rfl, by kernel_rfl⟩
end Go.Proofs.Ytliglilanpfjhaa
/- The order of entries: the law. -/
namespace Go.Proofs.Ytliglilanpfjhaa
open Go.Pv
set_option maxRecDepth 100000
set_option maxHeartbeats 8000000
theorem order_law (l : List Ke) (hl : l.length ≤ 9223372036854775807) (x y z : Ky) (hx : x.Wide) (hy : y.Wide) (hz : z.Wide) (st : Store) : Rets P F.podiumlaw21_TiesOrder [Ke.lst l, x.pv, y.pv, z.pv] st (.bool true) := by
  have cs := sane_spec
  have cr := right3_spec l hl x y z hx hy hz
  clear hx hy hz
  cases hR : rightL l [x, y, z] with
  | false =>
    rw [hR] at cr
    refine H.podiumlaw21_TiesOrder.view hmix rfl rfl ?_
    repeat' (first 
     | (with_reducible refine Fresh.intro fun b hb => ?_) <;> (try simp -dsimp -implicitDefEqProofs [*] at hb)
     | (with_reducible refine Rets.xcall (cs _) ?_)
     | (with_reducible refine Rets.xcall (cr _) ?_)
     | (with_reducible refine Lit.imm ?_)
     | (simp -dsimp -implicitDefEqProofs [*]))
    exact RetView.drop (st' := st) (by repeat' (first | exact StLe.refl _ | (refine StLe_cons (by simp [*]; done) ?_) | (refine StLe_fresh (by simp [*]; done) ?_))) ⟨rfl, rfl⟩
  | true =>
    rw [hR] at cr
    have h := rightL_iff hR
    have mx : x ∈ [x, y, z] := by simp
    have my : y ∈ [x, y, z] := by simp
    have mz : z ∈ [x, y, z] := by simp
    have c1 := h.comp mx my
    have c2 := h.comp my mx
    have c3 := h.comp my mz
    have c4 := h.comp mx mz
    have c5 := h.comp mx mx
    rw [lexc_self] at c5
    rw [lexc_swap (vec l x) (vec l y)] at c2
    have l1 := vec_len l x
    have l2 := vec_len l y
    have l3 := vec_len l z
    have v1 := lexc_vals (vec l x) (vec l y) 0
    have v2 := (lexc_vals (vec l y) (vec l z) 0).1
    have s1 := fun h => lexc_same (l := vec l x) (m := vec l y) (i := 0) (by rw [l1, l2]) h (vec l z)
    have s2 := fun h1 h2 => lexc_trans (l := vec l x) (m := vec l y) (n := vec l z) (i := 0) (by rw [l1, l2]) (by rw [l2, l3]) h1 h2
    rw [l1] at v1
    have hl32 := h.len
    obtain ⟨ab, hab⟩ : ∃ r, r = lexc (vec l x) (vec l y) 0 := ⟨_, rfl⟩
    obtain ⟨bc, hbc⟩ : ∃ r, r = lexc (vec l y) (vec l z) 0 := ⟨_, rfl⟩
    obtain ⟨ac, hac⟩ : ∃ r, r = lexc (vec l x) (vec l z) 0 := ⟨_, rfl⟩
    rw [← hab] at c1 c2 v1 s1 s2
    rw [← hbc] at c3 v2 s1 s2
    rw [← hac] at c4 s1 s2
    clear hab hbc hac hR h mx my mz l1 l2 l3
    obtain ⟨a1, a2⟩ := ab
    obtain ⟨b1, b2⟩ := bc
    obtain ⟨d1, d2⟩ := ac
    simp only at c1 c2 c3 c4 v1 v2 s1 s2
    obtain ⟨u1, u2, u3, u4, -⟩ := v1
    have w1 : IntKind.i64.wrap (-1) = -1 := rfl
    have w2 : IntKind.i64.wrap 1 = 1 := rfl
    have w0 : IntKind.i64.wrap 0 = 0 := rfl
    refine H.podiumlaw21_TiesOrder.view hmix rfl rfl ?_
    by_cases h0 : a1 = 0
    · have e2 : a2 = -1 := u2.1 h0
      have e3 := s1 h0
      simp only [Prod.mk.injEq] at e3
      obtain ⟨rfl, rfl⟩ := e3
      subst h0; subst e2
      have n1 : ¬ (l.length : Int) < -1 := by omega
      clear s1 s2 u1 u2 u3 u4
      repeat' (first 
       | (with_reducible refine Fresh.intro fun b hb => ?_) <;> (try simp -dsimp -implicitDefEqProofs [*] at hb)
       | (with_reducible refine Rets.xcall (cs _) ?_)
       | (with_reducible refine Rets.xcall (cr _) ?_)
       | (with_reducible refine Rets.xcall (c1 _) ?_)
       | (with_reducible refine Rets.xcall (c2 _) ?_)
       | (with_reducible refine Rets.xcall (c3 _) ?_)
       | (with_reducible refine Rets.xcall (c4 _) ?_)
       | (with_reducible refine Rets.xcall (c5 _) ?_)
       | (with_reducible refine Lit.imm ?_)
       | (simp -dsimp -implicitDefEqProofs [*]))
      exact RetView.drop (st' := st) (by repeat' (first | exact StLe.refl _ | (refine StLe_cons (by simp [*]; done) ?_) | (refine StLe_fresh (by simp [*]; done) ?_))) ⟨rfl, rfl⟩
    · have n2 : ¬ a2 = -1 := fun e => h0 (u2.2 e)
      have n3 : ¬ a2 < -1 := by omega
      have n4 : ¬ (l.length : Int) < a2 := by omega
      have e4 : b1 = a1 ∨ b1 = 0 → d1 = a1 := fun h => s2 h0 h
      have n5 : ¬ a1 < -1 := by omega
      have n6 : ¬ 1 < a1 := by omega
      have wn : IntKind.i64.wrap (-a1) = -a1 := wrap_in (by omega) (by omega)
      clear s1 s2 u1 u2 u3 u4 w0 w1 w2
      by_cases h1 : b1 = a1 ∨ b1 = 0
      · have e5 := e4 h1
        subst e5
        rcases h1 with rfl | rfl
        all_goals
          clear e4 v2
          repeat' (first 
           | (with_reducible refine Fresh.intro fun b hb => ?_) <;> (try simp -dsimp -implicitDefEqProofs [*] at hb)
           | (with_reducible refine Rets.xcall (cs _) ?_)
           | (with_reducible refine Rets.xcall (cr _) ?_)
           | (with_reducible refine Rets.xcall (c1 _) ?_)
           | (with_reducible refine Rets.xcall (c2 _) ?_)
           | (with_reducible refine Rets.xcall (c3 _) ?_)
           | (with_reducible refine Rets.xcall (c4 _) ?_)
           | (with_reducible refine Rets.xcall (c5 _) ?_)
           | (with_reducible refine Lit.imm ?_)
           | (simp -dsimp -implicitDefEqProofs [*]))
          exact RetView.drop (st' := st) (by repeat' (first | exact StLe.refl _ | (refine StLe_cons (by simp [*]; done) ?_) | (refine StLe_fresh (by simp [*]; done) ?_))) ⟨rfl, rfl⟩
      · have q1 : ¬ b1 = a1 := fun e => h1 (.inl e)
        have q2 : ¬ b1 = 0 := fun e => h1 (.inr e)
        clear e4 h1 v2
        repeat' (first 
         | (with_reducible refine Fresh.intro fun b hb => ?_) <;> (try simp -dsimp -implicitDefEqProofs [*] at hb)
         | (with_reducible refine Rets.xcall (cs _) ?_)
         | (with_reducible refine Rets.xcall (cr _) ?_)
         | (with_reducible refine Rets.xcall (c1 _) ?_)
         | (with_reducible refine Rets.xcall (c2 _) ?_)
         | (with_reducible refine Rets.xcall (c3 _) ?_)
         | (with_reducible refine Rets.xcall (c4 _) ?_)
         | (with_reducible refine Rets.xcall (c5 _) ?_)
         | (with_reducible refine Lit.imm ?_)
         | (simp -dsimp -implicitDefEqProofs [*]))
        exact RetView.drop (st' := st) (by repeat' (first | exact StLe.refl _ | (refine StLe_cons (by simp [*]; done) ?_) | (refine StLe_fresh (by simp [*]; done) ?_))) ⟨rfl, rfl⟩
end Go.Proofs.Ytliglilanpfjhaa
