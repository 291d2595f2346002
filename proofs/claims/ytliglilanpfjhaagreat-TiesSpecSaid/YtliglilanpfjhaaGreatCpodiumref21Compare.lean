/- The code of one function. -/
import Derived.Test.YtliglilanpfjhaaGreatCode
import Derived.Test.YtliglilanpfjhaaGreatG21RA
set_option maxRecDepth 100000
namespace Go.Proofs.YtliglilanpfjhaaGreat
open Go.Pv
/-- podium/podiumref21.Compare -/
noncomputable def C.podiumref21_Compare : MFunc := ⟨35, 3, [.tmp 6, .tmp 7, .tmp 8],
  (.seq (.region [
    ⟨(some 4), none, .box T.apiKeyed (.tmp 1)⟩,
    ⟨(some 5), none, .box T.apiKeyed (.tmp 2)⟩,
    ⟨(some 6), none, .val (.mv (.const (.int 0)))⟩,
    ⟨(some 7), none, .val (.mv (.const (.int 0)))⟩,
    ⟨(some 8), none, .val (.mv (.const (.int 0)))⟩] [])
  (.seq (.seq (.region [
    ⟨(some 11), none, .val (.mv (.tmp 0))⟩,
    ⟨(some 12), none, .call (.const (.func (.func F.podiumref21_Plain) [] [])) [(.tmp 11)]⟩,
    ⟨(some 13), none, .val (.un .not (.tmp 12))⟩,
    ⟨(some 14), none, .val (.mv (.tmp 13))⟩,
    ⟨(some 15), (some (14, false)), .val (.mv (.tmp 0))⟩,
    ⟨(some 16), (some (14, false)), .val (.load 10 true (.tmp 4))⟩,
    ⟨(some 17), (some (14, false)), .call (.const (.func (.func F.podiumref21_Right) [] [])) [(.tmp 15), (.tmp 16)]⟩,
    ⟨(some 18), (some (14, false)), .val (.un .not (.tmp 17))⟩,
    ⟨(some 19), none, .val (.pick (.tmp 14) (.const (.bool true)) (.tmp 18))⟩,
    ⟨(some 20), none, .val (.mv (.tmp 19))⟩,
    ⟨(some 21), (some (20, false)), .val (.mv (.tmp 0))⟩,
    ⟨(some 22), (some (20, false)), .val (.load 10 true (.tmp 5))⟩,
    ⟨(some 23), (some (20, false)), .call (.const (.func (.func F.podiumref21_Right) [] [])) [(.tmp 21), (.tmp 22)]⟩,
    ⟨(some 24), (some (20, false)), .val (.un .not (.tmp 23))⟩,
    ⟨(some 25), none, .val (.pick (.tmp 20) (.const (.bool true)) (.tmp 24))⟩] [11, 12, 13, 14, 15, 16, 17, 18, 19, 20, 21, 22, 23, 24])
  (.cond (.tmp 25)
  (.seq (.region [
    ⟨(some 6), none, .val (.mv (.const (.int 0)))⟩,
    ⟨(some 7), none, .val (.mv (.const (.int 0)))⟩,
    ⟨(some 8), none, .val (.mv (.const (.int 210)))⟩] [])
  .ret)
  .skip))
  (.seq (.region [
    ⟨(some 27), none, .val (.mv (.tmp 0))⟩,
    ⟨(some 28), none, .val (.load 10 true (.tmp 4))⟩,
    ⟨(some 29), none, .val (.load 10 true (.tmp 5))⟩,
    ⟨(some 30), none, .call (.const (.func (.func F.podiumref21_first) [] [])) [(.tmp 27), (.tmp 28), (.tmp 29)]⟩,
    ⟨(some 26), none, .val (.mv (.tmp 30))⟩,
    ⟨(some 31), none, .val (.extract 0 (.tmp 26))⟩,
    ⟨(some 32), none, .val (.extract 1 (.tmp 26))⟩,
    ⟨(some 9), none, .val (.mv (.tmp 31))⟩,
    ⟨(some 10), none, .val (.mv (.tmp 32))⟩] [27, 28, 29, 30, 26, 31, 32])
  (.seq (.region [
    ⟨(some 33), none, .val (.mv (.tmp 9))⟩,
    ⟨(some 34), none, .val (.mv (.tmp 10))⟩,
    ⟨(some 6), none, .val (.mv (.tmp 33))⟩,
    ⟨(some 7), none, .val (.mv (.tmp 34))⟩,
    ⟨(some 8), none, .val (.mv (.const (.int 0)))⟩] [33, 34])
  .ret))))⟩
theorem H.podiumref21_Compare : Has P F.podiumref21_Compare C.podiumref21_Compare := ⟨Tryz.f9, Tryz.func9, by kernel_rfl, by kernel_rfl⟩
end Go.Proofs.YtliglilanpfjhaaGreat
/- The code of one function. -/
set_option maxRecDepth 100000
namespace Go.Proofs.YtliglilanpfjhaaGreat
open Go.Pv
/-- podium/podiumlaw21.TiesSpec -/
noncomputable def C.podiumlaw21_TiesSpec : MFunc := ⟨50, 3, [.tmp 6],
  (.seq (.region [
    ⟨(some 4), none, .box T.apiKeyed (.tmp 1)⟩,
    ⟨(some 5), none, .box T.apiKeyed (.tmp 2)⟩,
    ⟨(some 6), none, .val (.mv (.const (.bool false)))⟩] [])
  (.seq (.seq (.region [
    ⟨(some 13), none, .call (.const (.func (.func F.podiumlaw21_sane) [] [])) []⟩,
    ⟨(some 14), none, .val (.un .not (.tmp 13))⟩] [13])
  (.cond (.tmp 14)
  (.seq (.region [
    ⟨(some 6), none, .val (.mv (.const (.bool false)))⟩] [])
  .ret)
  .skip))
  (.seq (.seq (.region [
    ⟨(some 15), none, .val (.mv (.tmp 0))⟩,
    ⟨(some 16), none, .val (.load 10 true (.tmp 4))⟩,
    ⟨(some 17), none, .val (.load 10 true (.tmp 5))⟩,
    ⟨(some 18), none, .val (.buildSlice T.apiKeyed 2 [(.int 0), (.bool false), .nil, (.bool false), .nil, .nil, .nil, (.int 0), (.int 0), (.int 0), (.int 0), (.bool false), .nil, (.bool false), .nil, .nil, .nil, (.int 0), (.int 0), (.int 0)] [(0, 10, (.tmp 16)), (10, 10, (.tmp 17))])⟩,
    ⟨(some 19), none, .call (.const (.func (.func F.podiumref21_Few) [] [])) [(.tmp 15), (.tmp 18)]⟩,
    ⟨(some 20), none, .val (.un .not (.tmp 19))⟩] [15, 16, 17, 18, 19])
  (.cond (.tmp 20)
  (.seq (.region [
    ⟨(some 6), none, .val (.mv (.const (.bool true)))⟩] [])
  .ret)
  .skip))
  (.seq (.region [
    ⟨(some 22), none, .val (.mv (.tmp 0))⟩,
    ⟨(some 23), none, .val (.load 10 true (.tmp 4))⟩,
    ⟨(some 24), none, .val (.load 10 true (.tmp 5))⟩,
    ⟨(some 25), none, .call (.const (.func (.func F.ties_Compare) [] [])) [(.tmp 22), (.tmp 23), (.tmp 24)]⟩,
    ⟨(some 21), none, .val (.mv (.tmp 25))⟩,
    ⟨(some 26), none, .val (.extract 0 (.tmp 21))⟩,
    ⟨(some 27), none, .val (.extract 1 (.tmp 21))⟩,
    ⟨(some 28), none, .val (.extract 2 (.tmp 21))⟩,
    ⟨(some 7), none, .val (.mv (.tmp 26))⟩,
    ⟨(some 8), none, .val (.mv (.tmp 27))⟩,
    ⟨(some 9), none, .val (.mv (.tmp 28))⟩] [22, 23, 24, 25, 21, 26, 27, 28])
  (.seq (.region [
    ⟨(some 30), none, .val (.mv (.tmp 0))⟩,
    ⟨(some 31), none, .val (.load 10 true (.tmp 4))⟩,
    ⟨(some 32), none, .val (.load 10 true (.tmp 5))⟩,
    ⟨(some 33), none, .call (.const (.func (.func F.podiumref21_Compare) [] [])) [(.tmp 30), (.tmp 31), (.tmp 32)]⟩,
    ⟨(some 29), none, .val (.mv (.tmp 33))⟩,
    ⟨(some 34), none, .val (.extract 0 (.tmp 29))⟩,
    ⟨(some 35), none, .val (.extract 1 (.tmp 29))⟩,
    ⟨(some 36), none, .val (.extract 2 (.tmp 29))⟩,
    ⟨(some 10), none, .val (.mv (.tmp 34))⟩,
    ⟨(some 11), none, .val (.mv (.tmp 35))⟩,
    ⟨(some 12), none, .val (.mv (.tmp 36))⟩] [30, 31, 32, 33, 29, 34, 35, 36])
  (.seq (.region [
    ⟨(some 37), none, .val (.mv (.tmp 7))⟩,
    ⟨(some 38), none, .val (.mv (.tmp 10))⟩,
    ⟨(some 39), none, .val (.bin .eql T.int (.tmp 37) (.tmp 38))⟩,
    ⟨(some 40), none, .val (.mv (.tmp 39))⟩,
    ⟨(some 41), (some (40, true)), .val (.mv (.tmp 8))⟩,
    ⟨(some 42), (some (40, true)), .val (.mv (.tmp 11))⟩,
    ⟨(some 43), (some (40, true)), .val (.bin .eql T.int (.tmp 41) (.tmp 42))⟩,
    ⟨(some 44), none, .val (.pick (.tmp 40) (.tmp 43) (.const (.bool false)))⟩,
    ⟨(some 45), none, .val (.mv (.tmp 44))⟩,
    ⟨(some 46), (some (45, true)), .val (.mv (.tmp 9))⟩,
    ⟨(some 47), (some (45, true)), .val (.mv (.tmp 12))⟩,
    ⟨(some 48), (some (45, true)), .val (.bin .eql T.apiErrno (.tmp 46) (.tmp 47))⟩,
    ⟨(some 49), none, .val (.pick (.tmp 45) (.tmp 48) (.const (.bool false)))⟩,
    ⟨(some 6), none, .val (.mv (.tmp 49))⟩] [37, 38, 39, 40, 41, 42, 43, 44, 45, 46, 47, 48, 49])
  .ret))))))⟩
theorem H.podiumlaw21_TiesSpec : Has P F.podiumlaw21_TiesSpec C.podiumlaw21_TiesSpec := ⟨Tryz.f3, Tryz.func3, by kernel_rfl, by kernel_rfl⟩
end Go.Proofs.YtliglilanpfjhaaGreat
/- Compare matches the specification. -/
namespace Go.Proofs.YtliglilanpfjhaaGreat
open Go.Pv
set_option maxRecDepth 100000
set_option maxHeartbeats 8000000
theorem refCompare_spec (l : List Ke) (hl : l.length ≤ 100000) (a d : Ky) (ha : a.Wide) (hd : d.Wide) (st : Store) :
    Rets P F.podiumref21_Compare [Ke.lst l, a.pv, d.pv] st (.tuple [.int (cmpA l a d).1, .int (cmpA l a d).2, .int (cmpE l a d)]) := by
  have cp := plain21_spec l (by omega)
  have c1 := right21_spec l (by omega) a ha
  have c2 := right21_spec l (by omega) d hd
  refine H.podiumref21_Compare.view hmix rfl rfl ?_
  cases h0 : plainK l with
  | false =>
    have e : cmpE l a d = 210 := by unfold cmpE; unfold plainK at h0; rw [h0]; rfl
    have e2 := cmpA_err e
    rw [e, e2]
    rw [h0] at cp
    clear c1 c2 h0 e e2
    repeat' (first 
     | (with_reducible refine Fresh.intro fun b hb => ?_) <;> (try simp -dsimp -implicitDefEqProofs [*] at hb)
     | (with_reducible refine Rets.xcall (cp _) ?_)
     | (simp -dsimp -implicitDefEqProofs [*]))
    exact RetView.drop (st' := st) (by repeat' (first | exact StLe.refl _ | (refine StLe_cons (by simp [*]; done) ?_) | (refine StLe_fresh (by simp [*]; done) ?_))) ⟨rfl, rfl⟩
  | true =>
    have ho : okKeys l = l := by
      unfold plainK at h0
      simp only [Bool.and_eq_true, decide_eq_true_eq] at h0
      exact okKeys_len.1 h0.1
    have eE : cmpE l a d = if (true && (!wrongK l a && !wrongK l d)) = true then 0 else 210 := by
      unfold cmpE; unfold plainK at h0; rw [h0, ho]
    rw [h0] at cp
    cases h1 : wrongK l a with
    | true =>
      rw [h1] at c1 eE
      have e : cmpE l a d = 210 := eE
      have e2 := cmpA_err e
      rw [e, e2]
      clear c2 h0 h1 e e2 eE ho
      repeat' (first 
       | (with_reducible refine Fresh.intro fun b hb => ?_) <;> (try simp -dsimp -implicitDefEqProofs [*] at hb)
       | (with_reducible refine Rets.xcall (cp _) ?_)
       | (with_reducible refine Rets.xcall (c1 _) ?_)
       | (simp -dsimp -implicitDefEqProofs [*]))
      exact RetView.drop (st' := st) (by repeat' (first | exact StLe.refl _ | (refine StLe_cons (by simp [*]; done) ?_) | (refine StLe_fresh (by simp [*]; done) ?_))) ⟨rfl, rfl⟩
    | false =>
      rw [h1] at c1 eE
      cases h2 : wrongK l d with
      | true =>
        rw [h2] at c2 eE
        have e : cmpE l a d = 210 := eE
        have e2 := cmpA_err e
        rw [e, e2]
        clear h0 h1 e e2 eE h2 ho
        repeat' (first 
         | (with_reducible refine Fresh.intro fun b hb => ?_) <;> (try simp -dsimp -implicitDefEqProofs [*] at hb)
         | (with_reducible refine Rets.xcall (cp _) ?_)
         | (with_reducible refine Rets.xcall (c1 _) ?_)
         | (with_reducible refine Rets.xcall (c2 _) ?_)
         | (simp -dsimp -implicitDefEqProofs [*]))
        exact RetView.drop (st' := st) (by repeat' (first | exact StLe.refl _ | (refine StLe_cons (by simp [*]; done) ?_) | (refine StLe_fresh (by simp [*]; done) ?_))) ⟨rfl, rfl⟩
      | false =>
        rw [h2] at c2 eE
        have e : cmpE l a d = 0 := eE
        have cf := first21_spec l (by rw [← ho]; exact okKeys_keys l) hl a d h1 h2
        have e2 : cmpA l a d = lexc (vec l a) (vec l d) 0 := by unfold cmpA; rw [e, ho]; rfl
        rw [e, e2]
        obtain ⟨r, hr⟩ : ∃ r, r = lexc (vec l a) (vec l d) 0 := ⟨_, rfl⟩
        rw [← hr] at cf ⊢
        clear h0 h1 e e2 eE h2 ho hr
        repeat' (first 
         | (with_reducible refine Fresh.intro fun b hb => ?_) <;> (try simp -dsimp -implicitDefEqProofs [*] at hb)
         | (with_reducible refine Rets.xcall (cp _) ?_)
         | (with_reducible refine Rets.xcall (c1 _) ?_)
         | (with_reducible refine Rets.xcall (c2 _) ?_)
         | (with_reducible refine Rets.xcall (cf _) ?_)
         | (simp -dsimp -implicitDefEqProofs [*]))
        exact RetView.drop (st' := st) (by repeat' (first | exact StLe.refl _ | (refine StLe_cons (by simp [*]; done) ?_) | (refine StLe_fresh (by simp [*]; done) ?_))) ⟨rfl, rfl⟩
theorem spec_law (l : List Ke) (a d : Ky) (st : Store) : Rets P F.podiumlaw21_TiesSpec [Ke.lst l, a.pv, d.pv] st (.bool true) := by
  have cs := sane_spec
  have cf : ∀ st, Rets P F.podiumref21_Few [Ke.lst l, .list true (row2 a.enc d.enc) 2] st (.bool (fewK l [a, d])) := few21K_spec l true [a, d]
  refine H.podiumlaw21_TiesSpec.view hmix rfl rfl ?_
  cases h : fewK l [a, d] with
  | false =>
    rw [h] at cf
    repeat' (first 
     | (with_reducible refine Fresh.intro fun b hb => ?_) <;> (try simp -dsimp -implicitDefEqProofs [*] at hb)
     | (with_reducible refine Rets.xcall (cs _) ?_)
     | (with_reducible refine Rets.xcall (cf _) ?_)
     | (with_reducible refine Lit.imm ?_)
     | (simp -dsimp -implicitDefEqProofs [*]))
    exact RetView.drop (st' := st) (by repeat' (first | exact StLe.refl _ | (refine StLe_cons (by simp [*]; done) ?_) | (refine StLe_fresh (by simp [*]; done) ?_))) ⟨rfl, rfl⟩
  | true =>
    rw [h] at cf
    obtain ⟨h1, -, h3⟩ := fewK_lens h
    have ha := h3 a (by simp)
    have hd := h3 d (by simp)
    have c1 := compareT_spec l (by omega) a d ha hd
    have c2 := refCompare_spec l (by omega) a d ha.wide hd.wide
    obtain ⟨r, hr⟩ : ∃ r, r = cmpA l a d := ⟨_, rfl⟩
    obtain ⟨e, he⟩ : ∃ r, r = cmpE l a d := ⟨_, rfl⟩
    rw [← hr, ← he] at c1 c2
    clear hr he ha hd h3 h1 h
    repeat' (first 
     | (with_reducible refine Fresh.intro fun b hb => ?_) <;> (try simp -dsimp -implicitDefEqProofs [*] at hb)
     | (with_reducible refine Rets.xcall (cs _) ?_)
     | (with_reducible refine Rets.xcall (cf _) ?_)
     | (with_reducible refine Rets.xcall (c1 _) ?_)
     | (with_reducible refine Rets.xcall (c2 _) ?_)
     | (with_reducible refine Lit.imm ?_)
     | (simp -dsimp -implicitDefEqProofs [*]))
    exact RetView.drop (st' := st) (by repeat' (first | exact StLe.refl _ | (refine StLe_cons (by simp [*]; done) ?_) | (refine StLe_fresh (by simp [*]; done) ?_))) ⟨rfl, rfl⟩
end Go.Proofs.YtliglilanpfjhaaGreat
