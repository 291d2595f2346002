/- SHA-256: a block, by the program. -/
import Derived.Test.YtmgpkcpalpejcaaDoorS34A
import Derived.Test.YtmgpkcpalpejcaaDoorLNt
namespace Go.Proofs.YtmgpkcpalpejcaaDoor
open Go.Pv Go.Pv.Sha
set_option maxRecDepth 100000
set_option maxHeartbeats 4000000
theorem sub_byte (l : List (BitVec 8)) (i : Nat) (h : i < l.length) : (byteRow l)[i]? = some (bv (byteAt l i)) := by
  rw [byteRow_get l i h]
  simp [byteAt, h]
def acc (l : List (BitVec 8)) : Nat → BitVec 32
  | 0 => 0#32
  | i + 1 => acc l i <<< 8 ||| (byteAt l i).setWidth 32
theorem word_spec (t : Bool) (l : List (BitVec 8)) (hl : 4 ≤ l.length) (st : Store) : Rets P F.digest_word [byteLst t l] st (wv (wordOf (byteAt l 0) (byteAt l 1) (byteAt l 2) (byteAt l 3))) := by
  have hb : ∀ i, i < 4 → (byteRow l)[i]? = some (bv (byteAt l i)) := fun i hi => sub_byte l i (by omega)
  refine H.digest_word.pure hmix rfl rfl ?_
  repeat' (first 
   | ((with_reducible refine and_keep ?_ fun hk => ?_); omega)
   | (simp -dsimp -implicitDefEqProofs [*]))
  refine xloop_for (fun i : Nat => [(0, byteLst t l), (2, wv (acc l i)), (6, .list false ((byteRow l).take 4) 4), (7, .int 4), (8, .int (i : Nat))]) (fun _ => st) (fun i => i ≤ 4) (fun i => 4 - i) 0 (by omega) (by simp [acc]; rfl) (by simp) ?_
  intro i hi
  have hw := wrap_succ (n := i) (by omega)
  by_cases hil : i < 4
  · have hg : ((byteRow l).take 4)[i]? = some (bv (byteAt l i)) := by rw [List.getElem?_take, if_pos hil, hb i hil]
    have hlen : ((byteRow l).take 4).length = 4 := by simp; omega
    have ha : acc l i <<< 8 ||| (byteAt l i).setWidth 32 = acc l (i + 1) := rfl
    generalize (byteRow l).take 4 = C at *
    have hgE : ∀ h : i < C.length, C[i]'h = bv (byteAt l i) := fun h => by rw [List.getElem?_eq_getElem h] at hg; exact Option.some.inj hg
    repeat' (first 
     | (with_reducible refine And.intro (fun h => ?_) (fun h => ?_)) <;> (try (exfalso; omega))
     | ((with_reducible refine and_keep ?_ fun hk => ?_); omega)
     | (simp -dsimp -implicitDefEqProofs [*]))
    exact Next.intro (i + 1) (by omega) (by omega) (by simp) (by repeat' (first | exact StLe.refl _ | (refine StLe_cons (by simp [*]; done) ?_) | (refine StLe_fresh (by simp [*]; done) ?_)))
  · have e : i = 4 := by omega
    subst e
    have e4 : acc l 4 = wordOf (byteAt l 0) (byteAt l 1) (byteAt l 2) (byteAt l 3) := wordOf_eq ..
    clear hi hw
    repeat' (simp -dsimp -implicitDefEqProofs [*])
abbrev numsO : PObj := .arr T.t64uint32 (wordRow nums)
theorem word_at (t : Bool) (l : List (BitVec 8)) (hl : l.length = 64) (i : Nat) (hi : i < 16) (st : Store) : Rets P F.digest_word [.list t ((byteRow l).drop (4 * i)) (64 - 4 * i)] st (wv (words l i)) := by
  have h := word_spec t (l.drop (4 * i)) (by simp; omega) st
  have e : ∀ j, byteAt (l.drop (4 * i)) j = byteAt l (4 * i + j) := fun j => by simp [byteAt]
  have e2 : byteLst t (l.drop (4 * i)) = .list t ((byteRow l).drop (4 * i)) (64 - 4 * i) := by
    show PV.list t (byteRow _) _ = _
    rw [← byteRow_drop, List.length_drop, hl]
  rw [e, e, e, e, Nat.add_zero, e2] at h
  exact h
theorem absorb_spec (p : Nat) (s : S8) (t : Bool) (l : List (BitVec 8)) (hl : l.length = 64) (st : Store) (hp : snew st p) (hp1 : ¬ p = 1) (hst : sget st 1 = some numsO) :
    Does P F.Pdigest_state_absorb [.ptr p 0, byteLst t l] ((p, .arr T.digeststate s.row) :: st) (.tuple []) ((p, .arr T.digeststate (block s l).row) :: st) := by
  refine H.Pdigest_state_absorb.view hmix rfl rfl ?_
  have hlr : (byteRow l).length = 64 := by simp [hl]
  repeat' (first 
   | (with_reducible refine Fresh.intro fun b hb => ?_) <;> (try simp -dsimp -implicitDefEqProofs [*] at hb)
   | (simp -dsimp -implicitDefEqProofs [*]))
  revert b
  intro w hw
  have hw1 : ¬ w = 1 := (snew_ne hw.2 hst).1
  refine xloop_for (fun i : Nat => [(0, .ptr p 0), (1, byteLst t l), (4, .ptr w 0), (14, .int (i : Nat))]) (fun i => (w, .arr T.t64uint32 (wordRow (wAt (words l) i))) :: (p, .arr T.digeststate s.row) :: st) (fun i => i ≤ 16) (fun i => 16 - i) 0 (by omega) (by simp) (.refl _) ?_
  intro i hi
  have hwi := wrap_succ (n := i) (by omega)
  by_cases hil : i < 16
  · have h4 : IntKind.i64.wrap (4 * (i : Int)) = 4 * (i : Int) := wrap_in (by omega) (by omega)
    have h4n : (4 * (i : Int)).toNat = 4 * i := by omega
    have hwd := fun st => word_at t l hl i hil st
    have hset := wAt_set (words l) (t := i) (by omega)
    rw [msg_low _ hil] at hset
    have hWl : (wordRow (wAt (words l) i)).length = 64 := by rw [wordRow_length, wAt_len]
    generalize hW1 : wordRow (wAt (words l) (i + 1)) = W1 at *
    generalize wordRow (wAt (words l) i) = W at *
    repeat' (first 
     | (with_reducible refine Rets.xcall (hwd _) ?_)
     | (with_reducible refine And.intro (fun h => ?_) (fun h => ?_)) <;> (try (exfalso; omega))
     | ((with_reducible refine and_keep ?_ fun hk => ?_); omega)
     | (simp -dsimp -implicitDefEqProofs [*]))
    subst hW1
    exact Next.intro (i + 1) (by omega) (by omega) (by simp) (by repeat' (first | exact StLe.refl _ | (refine StLe_cons (by simp [*]; done) ?_) | (refine StLe_fresh (by simp [*]; done) ?_)))
  · have e : i = 16 := by omega
    subst e
    clear hi hwi hil
    repeat' (simp -dsimp -implicitDefEqProofs [*])
    refine xloop_for (fun i : Nat => [(0, .ptr p 0), (4, .ptr w 0), (6, .int (i : Nat))]) (fun i => (w, .arr T.t64uint32 (wordRow (wAt (words l) i))) :: (p, .arr T.digeststate s.row) :: st) (fun i => 16 ≤ i ∧ i ≤ 64) (fun i => 64 - i) 16 (by omega) (by simp) (.refl _) ?_
    rintro i ⟨hi0, hi⟩
    have hwi := wrap_succ (n := i) (by omega)
    by_cases hil : i < 64
    · obtain ⟨j, rfl⟩ : ∃ j, i = j + 16 := ⟨i - 16, by omega⟩
      have hset := wAt_set (words l) (t := j + 16) hil
      rw [msg_high] at hset
      have g0 := wAt_get (words l) (j := j) (t := j + 16) (by omega) (by omega)
      have g1 := wAt_get (words l) (j := j + 1) (t := j + 16) (by omega) (by omega)
      have g9 := wAt_get (words l) (j := j + 9) (t := j + 16) (by omega) (by omega)
      have g14 := wAt_get (words l) (j := j + 14) (t := j + 16) (by omega) (by omega)
      have w16 : IntKind.i64.wrap (j : Int) = j := wrap_nat (by omega)
      have w15 : IntKind.i64.wrap (((j : Int) + 16) - 15) = (j : Int) + 1 := by rw [wrap_in (by omega) (by omega)]; omega
      have w7 : IntKind.i64.wrap (((j : Int) + 16) - 7) = (j : Int) + 9 := by rw [wrap_in (by omega) (by omega)]; omega
      have w2 : IntKind.i64.wrap (((j : Int) + 16) - 2) = (j : Int) + 14 := by rw [wrap_in (by omega) (by omega)]; omega
      have r : ∀ (x : BitVec 32) (n : Nat) (h : n < 32) (h0 : 0 < n) (st : Store), Rets P F.math_bits_RotateLeft32 [wv x, .int (-(n : Int))] st (wv (x.rotateRight n)) := fun x n h h0 st => rotl_spec x n h h0 st
      have r7 : ∀ (x : BitVec 32) (st : Store), Rets P F.math_bits_RotateLeft32 [wv x, .int (-7)] st (wv (x.rotateRight 7)) := fun x st => r x 7 (by omega) (by omega) st
      have r18 : ∀ (x : BitVec 32) (st : Store), Rets P F.math_bits_RotateLeft32 [wv x, .int (-18)] st (wv (x.rotateRight 18)) := fun x st => r x 18 (by omega) (by omega) st
      have r17 : ∀ (x : BitVec 32) (st : Store), Rets P F.math_bits_RotateLeft32 [wv x, .int (-17)] st (wv (x.rotateRight 17)) := fun x st => r x 17 (by omega) (by omega) st
      have r19 : ∀ (x : BitVec 32) (st : Store), Rets P F.math_bits_RotateLeft32 [wv x, .int (-19)] st (wv (x.rotateRight 19)) := fun x st => r x 19 (by omega) (by omega) st
      clear r
      have n16 : ((j : Int) + 16).toNat = j + 16 := by omega
      have n9 : ((j : Int) + 9).toNat = j + 9 := by omega
      have n14 : ((j : Int) + 14).toNat = j + 14 := by omega
      have hWl : (wordRow (wAt (words l) (j + 16))).length = 64 := by rw [wordRow_length, wAt_len]
      have hkeep : ∀ q, q < j + 16 → (wordRow (wAt (words l) (j + 16 + 1)))[q]? = (wordRow (wAt (words l) (j + 16)))[q]? := fun q hq => by
        rw [← hset, List.getElem?_set, if_neg (by omega)]
      generalize hW1 : wordRow (wAt (words l) (j + 16 + 1)) = W1 at *
      generalize wordRow (wAt (words l) (j + 16)) = W at *
      generalize msg (words l) j = m0 at *
      generalize msg (words l) (j + 1) = m1 at *
      generalize msg (words l) (j + 9) = m9 at *
      generalize msg (words l) (j + 14) = m14 at *
      repeat' (first 
       | (with_reducible refine And.intro (fun h => ?_) (fun h => ?_)) <;> (try (exfalso; omega))
       | ((with_reducible refine and_keep ?_ fun hk => ?_); omega)
       | (simp -dsimp -implicitDefEqProofs [*]))
      have hcl := ClsU.put (st0 := (p, .arr T.digeststate s.row) :: st) (w := w) (T := T.t64uint32) (n := j + 16) hkeep
      refine DrawLate.by (ClsU ((w, .arr T.t64uint32 W) :: (p, .arr T.digeststate s.row) :: st) w T.t64uint32 W (j + 16)) (ClsU.self (by simp)) ?_
      clear hkeep
      repeat' (first 
       | (with_reducible refine Rets.xcall (r7 _ _) ?_)
       | (with_reducible refine Rets.xcall (r18 _ _) ?_)
       | (with_reducible refine Rets.xcall (r17 _ _) ?_)
       | (with_reducible refine Rets.xcall (r19 _ _) ?_)
       | ((with_reducible refine and_keep ?_ fun hk => ?_); omega)
       | (simp -dsimp -implicitDefEqProofs [*]))
      subst hW1
      have hwi2 : IntKind.i64.wrap ((j : Int) + 16 + 1) = (j : Int) + 16 + 1 := wrap_in (by omega) (by omega)
      exact Next.intro (j + 16 + 1) (by omega) (by omega) (by simp [hwi2]) (by repeat' (first | exact StLe.refl _ | (refine StLe_cons (by simp [*]; done) ?_) | (refine StLe_fresh (by simp [*]; done) ?_)))
    · have e : i = 64 := by omega
      subst e
      clear hi hwi hil hi0
      repeat' (first 
       | (with_reducible refine Fresh.intro fun b hb => ?_) <;> (try simp -dsimp -implicitDefEqProofs [*] at hb)
       | (simp -dsimp -implicitDefEqProofs [*]))
      revert b
      intro v hv
      have hv1 : ¬ v = 1 := (snew_ne hv.2.2 hst).1
      refine xloop_for (fun i : Nat => [(0, .ptr p 0), (4, .ptr w 0), (9, .ptr v 0), (69, .int (i : Nat))]) (fun i => (v, .arr T.digeststate (rounds (words l) s i).row) :: (w, .arr T.t64uint32 (wordRow (wAt (words l) 64))) :: (p, .arr T.digeststate s.row) :: st) (fun i => i ≤ 64) (fun i => 64 - i) 0 (by omega) (by simp) (.refl _) ?_
      intro i hi
      have hwi := wrap_succ (n := i) (by omega)
      by_cases hil : i < 64
      · have gn := nums_get hil
        have gw := wAt_get (words l) (j := i) (t := 64) hil hil
        have hnl : (wordRow nums).length = 64 := by rw [wordRow_length]; rfl
        have hWl : (wordRow (wAt (words l) 64)).length = 64 := by rw [wordRow_length, wAt_len]
        have hstep : rounds (words l) s (i + 1) = Sha.step (rounds (words l) s i) (nums.getD i 0) (msg (words l) i) := rfl
        have ro : ∀ (x : BitVec 32) (st : Store), Rets P F.digest_rotated [wv x, .int 6, .int 11, .int 25] st (wv (Sha.sig x 6 11 25)) := fun x st => rotated_spec x 6 11 25 (by omega) (by omega) (by omega) (by omega) (by omega) (by omega) st
        have ro2 : ∀ (x : BitVec 32) (st : Store), Rets P F.digest_rotated [wv x, .int 2, .int 13, .int 22] st (wv (Sha.sig x 2 13 22)) := fun x st => rotated_spec x 2 13 22 (by omega) (by omega) (by omega) (by omega) (by omega) (by omega) st
        have hkE : ∀ h : i < nums.length, nums[i]'h = nums.getD i 0 := fun h => by rw [List.getD_eq_getElem?_getD, List.getElem?_eq_getElem h]; rfl
        have hgE : ∀ h : i < (wordRow (wAt (words l) 64)).length, (wordRow (wAt (words l) 64))[i]'h = wv (msg (words l) i) := fun h => by rw [List.getElem?_eq_getElem h] at gw; exact Option.some.inj gw
        generalize hS1 : rounds (words l) s (i + 1) = S1 at *
        generalize rounds (words l) s i = S0 at *
        generalize nums.getD i 0 = k at *
        generalize msg (words l) i = m at *
        generalize hWW : wordRow (wAt (words l) 64) = W at *
        repeat' (first 
         | (with_reducible refine Rets.xcall (ro _ _) ?_)
         | (with_reducible refine Rets.xcall (ro2 _ _) ?_)
         | (with_reducible refine DrawLate.intro [] ?_)
         | (with_reducible refine And.intro (fun h => ?_) (fun h => ?_)) <;> (try (exfalso; omega))
         | (simp -dsimp -implicitDefEqProofs [ch_eq, maj_eq, *]))
        subst hWW
        refine Next.intro (i + 1) (by omega) (by omega) (by simp) ?_
        show StLe ((v, .arr T.digeststate (rounds (words l) s (i + 1)).row) :: _) _
        rw [hS1, hstep]
        exact .refl _
      · have e : i = 64 := by omega
        subst e
        clear hi hwi hil
        repeat' (simp -dsimp -implicitDefEqProofs [*])
        refine xloop_for (fun i : Nat => [(0, .ptr p 0), (9, .ptr v 0), (129, .int (i : Nat))]) (fun i => (v, .arr T.digeststate (rounds (words l) s 64).row) :: (p, .arr T.digeststate (wordRow (mixAt s (rounds (words l) s 64) i))) :: st) (fun i => i ≤ 8) (fun i => 8 - i) 0 (by omega) (by simp) ?_ ?_
        · show StLe ((v, .arr T.digeststate (rounds (words l) s 64).row) :: (p, .arr T.digeststate s.row) :: st) _
          exact (by repeat' (first | exact StLe.refl _ | (refine StLe_cons (by simp [*]; done) ?_) | (refine StLe_fresh (by simp [*]; done) ?_)))
        intro i hi
        have hwi := wrap_succ (n := i) (by omega)
        by_cases hil : i < 8
        · have g1 := mixAt_get s (rounds (words l) s 64) hil
          have g2 := row_get (rounds (words l) s 64) hil
          have hset := mixAt_set s (rounds (words l) s 64) hil
          have hl1 : (wordRow (mixAt s (rounds (words l) s 64) i)).length = 8 := by rw [wordRow_length, mixAt_len]
          generalize hW1 : wordRow (mixAt s (rounds (words l) s 64) (i + 1)) = W1 at *
          generalize wordRow (mixAt s (rounds (words l) s 64) i) = W at *
          generalize hv64 : rounds (words l) s 64 = V at *
          generalize s.words.getD i 0 = x at *
          generalize V.words.getD i 0 = y at *
          have gE1 : ∀ h : i < W.length, W[i]'h = wv x := fun h => by rw [List.getElem?_eq_getElem h] at g1; exact Option.some.inj g1
          have gE2 : ∀ h : i < V.row.length, V.row[i]'h = wv y := fun h => by rw [List.getElem?_eq_getElem h] at g2; exact Option.some.inj g2
          repeat' (first 
           | (with_reducible refine And.intro (fun h => ?_) (fun h => ?_)) <;> (try (exfalso; omega))
           | ((with_reducible refine and_keep ?_ fun hk => ?_); omega)
           | (simp -dsimp -implicitDefEqProofs [*]))
          subst hW1
          exact Next.intro (i + 1) (by omega) (by omega) (by simp) (by repeat' (first | exact StLe.refl _ | (refine StLe_cons (by simp [*]; done) ?_) | (refine StLe_fresh (by simp [*]; done) ?_)))
        · have e : i = 8 := by omega
          subst e
          clear hi hwi hil
          repeat' (simp -dsimp -implicitDefEqProofs [*])
          refine RetView.fresh1 (by simp [*]) (.same ⟨rfl, ?_⟩)
          rfl
end Go.Proofs.YtmgpkcpalpejcaaDoor
