/- SHA-256: a block, by the reference. -/
import Derived.Test.YtmgpkcpalpejcaaDoorS34C
namespace Go.Proofs.YtmgpkcpalpejcaaDoor
open Go.Pv Go.Pv.Sha
set_option maxRecDepth 100000
set_option maxHeartbeats 4000000
theorem ror_spec (x : BitVec 32) (n : Nat) (h : n < 32) (st : Store) : Rets P F.podiumref02_ror [wv x, .int (n : Int)] st (wv (x.rotateRight n)) := by
  refine H.podiumref02_ror.pure hmix rfl rfl ?_
  have e3 : IntKind.i64.wrap (32 - (n : Int)) = ((32 - n : Nat) : Int) := by rw [wrap_in (by omega) (by omega)]; omega
  have e4 : x >>> min n 32 ||| x <<< min (32 - n) 32 = x.rotateRight n := by
    rw [Nat.min_eq_left (by omega), Nat.min_eq_left (by omega), BitVec.or_comm]
    exact rot_eq x n h
  generalize hm : 32 - n = m at *
  repeat' (simp -dsimp -implicitDefEqProofs [*])
theorem refWord_spec (t : Bool) (l : List (BitVec 8)) (hl : 4 ≤ l.length) (st : Store) : Rets P F.podiumref02_word [byteLst t l] st (wv (wordOf (byteAt l 0) (byteAt l 1) (byteAt l 2) (byteAt l 3))) := by
  have hb : ∀ i, i < 4 → ∀ h : i < l.length, l[i] = byteAt l i := fun i hi h => by simp [byteAt, h]
  have h0 := hb 0 (by omega) (by omega)
  have h1 := hb 1 (by omega) (by omega)
  have h2 := hb 2 (by omega) (by omega)
  have h3 := hb 3 (by omega) (by omega)
  have l0 : 0 < l.length := by omega
  have l1 : 1 < l.length := by omega
  have l2 : 2 < l.length := by omega
  have l3 : 3 < l.length := by omega
  refine H.podiumref02_word.pure hmix rfl rfl ?_
  repeat' (first 
   | ((with_reducible refine and_keep ?_ fun hk => ?_); omega)
   | (simp -dsimp -implicitDefEqProofs [*]))
  rfl
theorem refNumbers_spec (st : Store) : Rets P F.podiumref02_numbers [] st (.agg (wordRow nums)) := by
  refine H.podiumref02_numbers.pure hmix rfl rfl ?_
  repeat' (first 
   | (with_reducible refine Fresh.intro fun b hb => ?_) <;> (try simp -dsimp -implicitDefEqProofs [*] at hb)
   | (simp -dsimp -implicitDefEqProofs [*]))
  rfl
theorem refWord_at (l : List (BitVec 8)) (hl : l.length = 64) (i : Nat) (hi : i < 16) (st : Store) : Rets P F.podiumref02_word [.list false (((byteRow l).take (4 * i + 4)).drop (4 * i)) 4] st (wv (words l i)) := by
  have h := refWord_spec false ((l.take (4 * i + 4)).drop (4 * i)) (by simp; omega) st
  have e : ∀ j, j < 4 → byteAt ((l.take (4 * i + 4)).drop (4 * i)) j = byteAt l (4 * i + j) := fun j hj => by
    simp only [byteAt, List.getD_eq_getElem?_getD, List.getElem?_drop, List.getElem?_take]
    rw [if_pos (by omega)]
  have e2 : byteLst false ((l.take (4 * i + 4)).drop (4 * i)) = .list false (((byteRow l).take (4 * i + 4)).drop (4 * i)) 4 := by
    show PV.list false (byteRow _) _ = _
    rw [byteRow_take, byteRow_drop, List.length_drop, List.length_take, hl, Nat.min_eq_left (by omega)]
    congr 1
    omega
  rw [e 0 (by omega), e 1 (by omega), e 2 (by omega), e 3 (by omega), Nat.add_zero, e2] at h
  exact h
theorem refBlock_spec (s : S8) (t : Bool) (l : List (BitVec 8)) (hl : l.length = 64) (st : Store) : Rets P F.podiumref02_block [.agg s.row, byteLst t l] st (.agg (block s l).row) := by
  refine H.podiumref02_block.pure hmix rfl rfl ?_
  have hlr : (byteRow l).length = 64 := by simp [hl]
  have hsr : s.row.length = 8 := rfl
  repeat' (first 
   | (with_reducible refine Fresh.intro fun b hb => ?_) <;> (try simp -dsimp -implicitDefEqProofs [*] at hb)
   | (simp -dsimp -implicitDefEqProofs [*]))
  revert b
  intro w hw
  revert b
  intro r hr hw
  revert b
  intro p hp hr hw
  refine xloop_for (fun i : Nat => [(1, byteLst t l), (2, .ptr p 0), (4, .ptr r 0), (5, .ptr w 0), (6, .int (i : Nat))]) (fun i => (w, .arr T.t64uint32 (wordRow (wAt (words l) i))) :: (r, .arr T.t8uint32 (S8.mk 0 0 0 0 0 0 0 0).row) :: (p, .arr T.t8uint32 s.row) :: st) (fun i => i ≤ 16) (fun i => 16 - i) 0 (by omega) (by simp) (.refl _) ?_
  intro i hi
  have hwi := wrap_succ (n := i) (by omega)
  by_cases hil : i < 16
  · have h4 : IntKind.i64.wrap (4 * (i : Int)) = 4 * (i : Int) := wrap_in (by omega) (by omega)
    have h44 : IntKind.i64.wrap (4 * (i : Int) + 4) = 4 * (i : Int) + 4 := wrap_in (by omega) (by omega)
    have h4n : (4 * (i : Int)).toNat = 4 * i := by omega
    have h44n : (4 * (i : Int) + 4).toNat = 4 * i + 4 := by omega
    have hwd := fun st => refWord_at l hl i hil st
    have hset := wAt_set (words l) (t := i) (by omega)
    rw [msg_low _ hil] at hset
    have hWl : (wordRow (wAt (words l) i)).length = 64 := by rw [wordRow_length, wAt_len]
    generalize hW1 : wordRow (wAt (words l) (i + 1)) = W1 at *
    generalize wordRow (wAt (words l) i) = W at *
    repeat' (first 
     | (with_reducible refine Rets.xcall (hwd _) ?_)
     | (with_reducible refine And.intro (fun h => ?_) (fun h => ?_)) <;> (try (exfalso; omega))
     | ((with_reducible refine and_keep ?_ fun hk => ?_); omega)
     | (simp -dsimp -implicitDefEqProofs [*]))
    subst hW1
    exact Next.intro (i + 1) (by omega) (by omega) (by simp) (by repeat' (first | exact StLe.refl _ | (refine StLe_cons (by simp [*]; done) ?_) | (refine StLe_fresh (by simp [*]; done) ?_)))
  · have e : i = 16 := by omega
    subst e
    clear hi hwi hil
    repeat' (simp -dsimp -implicitDefEqProofs [*])
    refine xloop_for (fun i : Nat => [(2, .ptr p 0), (4, .ptr r 0), (5, .ptr w 0), (7, .int (i : Nat))]) (fun i => (w, .arr T.t64uint32 (wordRow (wAt (words l) i))) :: (r, .arr T.t8uint32 (S8.mk 0 0 0 0 0 0 0 0).row) :: (p, .arr T.t8uint32 s.row) :: st) (fun i => 16 ≤ i ∧ i ≤ 64) (fun i => 64 - i) 16 (by omega) (by simp) (.refl _) ?_
    rintro i ⟨hi0, hi⟩
    have hwi := wrap_succ (n := i) (by omega)
    by_cases hil : i < 64
    · obtain ⟨j, rfl⟩ : ∃ j, i = j + 16 := ⟨i - 16, by omega⟩
      have hset := wAt_set (words l) (t := j + 16) hil
      rw [msg_high] at hset
      have g0 := wAt_get (words l) (j := j) (t := j + 16) (by omega) (by omega)
      have g1 := wAt_get (words l) (j := j + 1) (t := j + 16) (by omega) (by omega)
      have g9 := wAt_get (words l) (j := j + 9) (t := j + 16) (by omega) (by omega)
      have g14 := wAt_get (words l) (j := j + 14) (t := j + 16) (by omega) (by omega)
      have w16 : IntKind.i64.wrap (j : Int) = j := wrap_nat (by omega)
      have w15 : IntKind.i64.wrap (((j : Int) + 16) - 15) = (j : Int) + 1 := by rw [wrap_in (by omega) (by omega)]; omega
      have w7 : IntKind.i64.wrap (((j : Int) + 16) - 7) = (j : Int) + 9 := by rw [wrap_in (by omega) (by omega)]; omega
      have w2 : IntKind.i64.wrap (((j : Int) + 16) - 2) = (j : Int) + 14 := by rw [wrap_in (by omega) (by omega)]; omega
      have r7 : ∀ (x : BitVec 32) (st : Store), Rets P F.podiumref02_ror [wv x, .int 7] st (wv (x.rotateRight 7)) := fun x st => ror_spec x 7 (by omega) st
      have r18 : ∀ (x : BitVec 32) (st : Store), Rets P F.podiumref02_ror [wv x, .int 18] st (wv (x.rotateRight 18)) := fun x st => ror_spec x 18 (by omega) st
      have r17 : ∀ (x : BitVec 32) (st : Store), Rets P F.podiumref02_ror [wv x, .int 17] st (wv (x.rotateRight 17)) := fun x st => ror_spec x 17 (by omega) st
      have r19 : ∀ (x : BitVec 32) (st : Store), Rets P F.podiumref02_ror [wv x, .int 19] st (wv (x.rotateRight 19)) := fun x st => ror_spec x 19 (by omega) st
      have n16 : ((j : Int) + 16).toNat = j + 16 := by omega
      have n9 : ((j : Int) + 9).toNat = j + 9 := by omega
      have n14 : ((j : Int) + 14).toNat = j + 14 := by omega
      have hWl : (wordRow (wAt (words l) (j + 16))).length = 64 := by rw [wordRow_length, wAt_len]
      have hkeep : ∀ q, q < j + 16 → (wordRow (wAt (words l) (j + 16 + 1)))[q]? = (wordRow (wAt (words l) (j + 16)))[q]? := fun q hq => by
        rw [← hset, List.getElem?_set, if_neg (by omega)]
      generalize hW1 : wordRow (wAt (words l) (j + 16 + 1)) = W1 at *
      generalize wordRow (wAt (words l) (j + 16)) = W at *
      generalize msg (words l) j = m0 at *
      generalize msg (words l) (j + 1) = m1 at *
      generalize msg (words l) (j + 9) = m9 at *
      generalize msg (words l) (j + 14) = m14 at *
      generalize hst0 : (r, PObj.arr T.t8uint32 (S8.mk 0 0 0 0 0 0 0 0).row) :: (p, .arr T.t8uint32 s.row) :: st = st0 at *
      repeat' (first 
       | (with_reducible refine And.intro (fun h => ?_) (fun h => ?_)) <;> (try (exfalso; omega))
       | ((with_reducible refine and_keep ?_ fun hk => ?_); omega)
       | (simp -dsimp -implicitDefEqProofs [*]))
      have hcl := ClsU.put (st0 := st0) (w := w) (T := T.t64uint32) (n := j + 16) hkeep
      refine DrawLate.by (ClsU ((w, .arr T.t64uint32 W) :: st0) w T.t64uint32 W (j + 16)) (ClsU.self (by simp)) ?_
      clear hkeep
      repeat' (first 
       | (with_reducible refine Rets.xcall (r7 _ _) ?_)
       | (with_reducible refine Rets.xcall (r18 _ _) ?_)
       | (with_reducible refine Rets.xcall (r17 _ _) ?_)
       | (with_reducible refine Rets.xcall (r19 _ _) ?_)
       | ((with_reducible refine and_keep ?_ fun hk => ?_); omega)
       | (simp -dsimp -implicitDefEqProofs [*]))
      subst hW1
      subst hst0
      have hwi2 : IntKind.i64.wrap ((j : Int) + 16 + 1) = (j : Int) + 16 + 1 := wrap_in (by omega) (by omega)
      exact Next.intro (j + 16 + 1) (by omega) (by omega) (by simp [hwi2]) (by repeat' (first | exact StLe.refl _ | (refine StLe_cons (by simp [*]; done) ?_) | (refine StLe_fresh (by simp [*]; done) ?_)))
    · have e : i = 64 := by omega
      subst e
      clear hi hwi hil hi0
      have hnl : nums.length = 64 := rfl
      repeat' (first 
       | (with_reducible refine Fresh.intro fun b hb => ?_) <;> (try simp -dsimp -implicitDefEqProofs [*] at hb)
       | (with_reducible refine Rets.xcall (refNumbers_spec _) ?_)
       | (simp -dsimp -implicitDefEqProofs [*]))
      revert b
      intro q hq
      refine xloop_for (fun i : Nat => [(2, .ptr p 0), (4, .ptr r 0), (5, .ptr w 0), (10, .ptr q 0), (11, wv (rounds (words l) s i).a), (12, wv (rounds (words l) s i).b), (13, wv (rounds (words l) s i).c), (14, wv (rounds (words l) s i).d), (15, wv (rounds (words l) s i).e), (16, wv (rounds (words l) s i).f), (17, wv (rounds (words l) s i).g), (18, wv (rounds (words l) s i).h), (19, .int (i : Nat))])
        (fun _ => (q, .arr T.t64uint32 (wordRow nums)) :: (w, .arr T.t64uint32 (wordRow (wAt (words l) 64))) :: (r, .arr T.t8uint32 (S8.mk 0 0 0 0 0 0 0 0).row) :: (p, .arr T.t8uint32 s.row) :: st) (fun i => i ≤ 64) (fun i => 64 - i) 0 (by omega) (by simp [rounds]) (.refl _) ?_
      intro i hi
      have hwi := wrap_succ (n := i) (by omega)
      by_cases hil : i < 64
      · have gn := nums_get hil
        have gw := wAt_get (words l) (j := i) (t := 64) hil hil
        have hWl : (wordRow (wAt (words l) 64)).length = 64 := by rw [wordRow_length, wAt_len]
        have hstep : rounds (words l) s (i + 1) = Sha.step (rounds (words l) s i) (nums.getD i 0) (msg (words l) i) := rfl
        have ro : ∀ (n : Nat) (x : BitVec 32) (st : Store), n < 32 → Rets P F.podiumref02_ror [wv x, .int (n : Int)] st (wv (x.rotateRight n)) := fun n x st h => ror_spec x n h st
        have r6 : ∀ (x : BitVec 32) (st : Store), Rets P F.podiumref02_ror [wv x, .int 6] st (wv (x.rotateRight 6)) := fun x st => ro 6 x st (by omega)
        have r11 : ∀ (x : BitVec 32) (st : Store), Rets P F.podiumref02_ror [wv x, .int 11] st (wv (x.rotateRight 11)) := fun x st => ro 11 x st (by omega)
        have r25 : ∀ (x : BitVec 32) (st : Store), Rets P F.podiumref02_ror [wv x, .int 25] st (wv (x.rotateRight 25)) := fun x st => ro 25 x st (by omega)
        have r2 : ∀ (x : BitVec 32) (st : Store), Rets P F.podiumref02_ror [wv x, .int 2] st (wv (x.rotateRight 2)) := fun x st => ro 2 x st (by omega)
        have r13 : ∀ (x : BitVec 32) (st : Store), Rets P F.podiumref02_ror [wv x, .int 13] st (wv (x.rotateRight 13)) := fun x st => ro 13 x st (by omega)
        have r22 : ∀ (x : BitVec 32) (st : Store), Rets P F.podiumref02_ror [wv x, .int 22] st (wv (x.rotateRight 22)) := fun x st => ro 22 x st (by omega)
        have hkE : ∀ h : i < nums.length, nums[i]'h = nums.getD i 0 := fun h => by rw [List.getD_eq_getElem?_getD, List.getElem?_eq_getElem h]; rfl
        have hgE : ∀ h : i < (wordRow (wAt (words l) 64)).length, (wordRow (wAt (words l) 64))[i]'h = wv (msg (words l) i) := fun h => by rw [List.getElem?_eq_getElem h] at gw; exact Option.some.inj gw
        clear ro
        generalize hS1 : rounds (words l) s (i + 1) = S1 at *
        generalize hS0 : rounds (words l) s i = S0 at *
        generalize nums.getD i 0 = k at *
        generalize msg (words l) i = m at *
        generalize hWW : wordRow (wAt (words l) 64) = W at *
        repeat' (first 
         | (with_reducible refine Rets.xcall (r6 _ _) ?_)
         | (with_reducible refine Rets.xcall (r11 _ _) ?_)
         | (with_reducible refine Rets.xcall (r25 _ _) ?_)
         | (with_reducible refine Rets.xcall (r2 _ _) ?_)
         | (with_reducible refine Rets.xcall (r13 _ _) ?_)
         | (with_reducible refine Rets.xcall (r22 _ _) ?_)
         | (with_reducible refine DrawLate.intro [] ?_)
         | (with_reducible refine And.intro (fun h => ?_) (fun h => ?_)) <;> (try (exfalso; omega))
         | (simp -dsimp -implicitDefEqProofs [*]))
        refine Next.intro (i + 1) (by omega) (by omega) ?_ (by repeat' (first | exact StLe.refl _ | (refine StLe_cons (by simp [*]; done) ?_) | (refine StLe_fresh (by simp [*]; done) ?_)))
        simp only [hS1, hstep]
        simp [Sha.step, t1, t2, Sha.sig]
      · have e : i = 64 := by omega
        subst e
        clear hi hwi hil
        have hpl : plus s (rounds (words l) s 64) = block s l := rfl
        generalize hV : rounds (words l) s 64 = V at *
        repeat' (simp -dsimp -implicitDefEqProofs [*])
        rw [← hpl]
        rfl
end Go.Proofs.YtmgpkcpalpejcaaDoor
