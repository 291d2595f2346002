/- Small functions of package seal. -/
import Derived.Test.YtnooplpbpfiapaaGreatDoorCode
import Derived.Test.YtnooplpbpfiapaaGreatDoorLNt
import Derived.Test.YtnooplpbpfiapaaGreatDoorLWd
namespace Go.Proofs.YtnooplpbpfiapaaGreatDoor
open Go.Pv
set_option maxRecDepth 100000
theorem k11 (b : Nat) (st : q5d) : Defs P F.q0q [.ptr b 0] .returning st .returning st := by
 refine H.q0q.defs q5n rfl rfl ?_
 repeat' (simp -dsimp -implicitDefEqProofs [*])
theorem k35 (b : Nat) (n m : Int) (st : q5d) (hb : q5w st b = some (.arr T.apiErrno [.int m])) : Defs P F.q0q [.ptr b 0] (.panicking (.iface T.apiErrno (.int n))) st .returning (k0a st b (.arr T.apiErrno [.int n])) := by
 refine H.q0q.defs q5n rfl rfl ?_
 repeat' (simp -dsimp -implicitDefEqProofs [*])
theorem k61 (st : q5d) : Rets P F.q33 [.bool true] st (.tuple []) := by
 refine H.q33.pure q5n rfl rfl ?_
 repeat' (simp -dsimp -implicitDefEqProofs [*])
theorem k3m (st : q5d) : Panics P F.q33 [.bool false] st (.iface T.apiErrno (.int 340)) := by
 refine H.q33.panics q5n rfl rfl ?_
 repeat' (simp -dsimp -implicitDefEqProofs [*])
def wi (n most : Int) : Bool := decide (0 ≤ n) && decide (n ≤ most)
theorem q8z (n most : Int) (st : q5d) : Rets P F.q3w [.int n, .int most] st (.bool (wi n most)) := by
 refine H.q3w.pure q5n rfl rfl ?_
 repeat' (first 
  | (with_reducible refine And.intro (fun h => ?_) (fun h => ?_)) <;> (try (exfalso; omega))
  | (simp -dsimp -implicitDefEqProofs [wi, *]))
 all_goals (intros; omega)
theorem j3d (n most : Int) (st : q5d) : Rets P F.q4j [.int n, .iptr [.int most] 0] st (.bool (!wi n most)) := by
 refine H.q4j.pure q5n rfl rfl ?_
 repeat' (first 
  | (with_reducible refine Rets.xcall (q8z _ _ _) ?_)
  | (simp -dsimp -implicitDefEqProofs [*]))
structure Place where
 round : Int
 entry : Int
 judge : Int
 deriving DecidableEq, Inhabited
def Place.enc (x : Place) : List PV := [.int x.round, .int x.entry, .int x.judge]
@[simp] theorem Place.len (x : Place) : x.enc.length = 3 := rfl
@[simp] theorem Place.subAll (x : Place) : sub x.enc 0 3 = some x.enc := rfl
@[simp] theorem Place.get0 (x : Place) : x.enc[0]? = some (.int x.round) := rfl
@[simp] theorem Place.getE0 (x : Place) (h : 0 < x.enc.length) : x.enc[0]'h = .int x.round := rfl
@[simp] theorem Place.set0 (x : Place) (v : Int) : List.set x.enc 0 (.int v) = (Place.mk v x.entry x.judge).enc := rfl
@[simp] theorem Place.get1 (x : Place) : x.enc[1]? = some (.int x.entry) := rfl
@[simp] theorem Place.getE1 (x : Place) (h : 1 < x.enc.length) : x.enc[1]'h = .int x.entry := rfl
@[simp] theorem Place.set1 (x : Place) (v : Int) : List.set x.enc 1 (.int v) = (Place.mk x.round v x.judge).enc := rfl
@[simp] theorem Place.get2 (x : Place) : x.enc[2]? = some (.int x.judge) := rfl
@[simp] theorem Place.getE2 (x : Place) (h : 2 < x.enc.length) : x.enc[2]'h = .int x.judge := rfl
@[simp] theorem Place.set2 (x : Place) (v : Int) : List.set x.enc 2 (.int v) = (Place.mk x.round x.entry v).enc := rfl
@[simp] theorem Place.fz (b : Nat) (o : PObj) (k : Nat) (x : Place) : k2g b o k x.enc = x.enc := rfl
@[simp] theorem Place.fill (x y : Place) : q5i x.enc 0 y.enc = y.enc := rfl
@[simp] theorem Place.key (x : Place) : PV.vals? x.enc = some [.int .i64 x.round, .int .i64 x.entry, .int .i64 x.judge] := rfl
def Place.row (l : List Place) : List PV := l.flatMap Place.enc
@[simp] theorem Place.row_len (l : List Place) : (Place.row l).length = l.length * 3 := q6h Place.enc 3 Place.len l
@[simp] theorem Place.row_nil : Place.row [] = [] := rfl
@[simp] theorem Place.row_cons (x : Place) (l : List Place) : Place.row (x :: l) = x.enc ++ Place.row l := rfl
@[simp] theorem Place.row_getE0 (l : List Place) (i : Nat) (h : i * 3 < (Place.row l).length) : (Place.row l)[i * 3]'h = .int (l[i]'(by rw [Place.row_len] at h; omega)).round := by
 have hl : i < l.length := by rw [Place.row_len] at h; omega
 have := q7n Place.enc 3 Place.len l i 0 hl (by omega)
 have h2 : (Place.row l)[i * 3]? = some (.int l[i].round) := this
 rw [List.getElem?_eq_getElem h] at h2
 exact Option.some.inj h2
@[simp] theorem Place.row_getE1 (l : List Place) (i : Nat) (h : i * 3 + 1 < (Place.row l).length) : (Place.row l)[i * 3 + 1]'h = .int (l[i]'(by rw [Place.row_len] at h; omega)).entry := by
 have hl : i < l.length := by rw [Place.row_len] at h; omega
 have := q7n Place.enc 3 Place.len l i 1 hl (by omega)
 have h2 : (Place.row l)[i * 3 + 1]? = some (.int l[i].entry) := this
 rw [List.getElem?_eq_getElem h] at h2
 exact Option.some.inj h2
theorem Place.row_fz (b : Nat) (o : PObj) (k : Nat) (l : List Place) : k2g b o k (Place.row l) = Place.row l := k6w Place.enc Place.fz b o k l
attribute [simp] Place.row_fz
def q65 (r e j : Int) (t : Bool) (l : List Int) (c : List PV) : List PV := [.int r, .int e, .int j, q5k t l] ++ c
def q7y (r e j : Int) : Bool := wi r 7 && wi e 4095 && wi j 255
theorem j3e (r e j : Int) (t : Bool) (l : List Int) (c : List PV) (h : q7y r e j = true) (st : q5d) : Rets P F.q2j [.agg (q65 r e j t l c)] st (.tuple []) := by
 refine H.q2j.pure q5n rfl rfl ?_
 simp [q7y] at h
 repeat' (first 
  | (with_reducible refine Fresh.intro fun b hb => ?_) <;> (try simp -dsimp -implicitDefEqProofs [*] at hb)
  | (with_reducible refine Rets.xcall (q8z _ _ _) ?_)
  | (with_reducible refine Rets.xcall (k61 _) ?_)
  | (simp -dsimp -implicitDefEqProofs [q65, *]))
theorem j3f (r e j : Int) (t : Bool) (l : List Int) (c : List PV) (h : q7y r e j = false) (st : q5d) : Panics P F.q2j [.agg (q65 r e j t l c)] st (.iface T.apiErrno (.int 340)) := by
 refine H.q2j.panics q5n rfl rfl ?_
 have h2 : wi r 7 = true → wi e 4095 = true → wi j 255 = false := fun a b => by simpa [q7y, a, b] using h
 cases h3 : wi r 7 with
 | false =>
  clear h h2
  repeat' (first 
   | (with_reducible refine Fresh.intro fun b hb => ?_) <;> (try simp -dsimp -implicitDefEqProofs [*] at hb)
   | (with_reducible refine Rets.xcall (q8z _ _ _) ?_)
   | (with_reducible refine Panics.xcall (k3m _) ?_)
   | (simp -dsimp -implicitDefEqProofs [q65, *]))
 | true =>
  cases h4 : wi e 4095 with
  | false =>
   clear h h2
   repeat' (first 
    | (with_reducible refine Fresh.intro fun b hb => ?_) <;> (try simp -dsimp -implicitDefEqProofs [*] at hb)
    | (with_reducible refine Rets.xcall (q8z _ _ _) ?_)
    | (with_reducible refine Panics.xcall (k3m _) ?_)
    | (simp -dsimp -implicitDefEqProofs [q65, *]))
  | true =>
   have h5 := h2 h3 h4
   clear h h2
   repeat' (first 
    | (with_reducible refine Fresh.intro fun b hb => ?_) <;> (try simp -dsimp -implicitDefEqProofs [*] at hb)
    | (with_reducible refine Rets.xcall (q8z _ _ _) ?_)
    | (with_reducible refine Panics.xcall (k3m _) ?_)
    | (simp -dsimp -implicitDefEqProofs [q65, *]))
open Go.Pv
set_option maxRecDepth 100000
theorem k52 (x : BitVec 32) (n : Nat) (h : n < 32) (h0 : 0 < n) (st : q5d) : Rets P F.q0c [wv x, .int (-(n : Int))] st (wv (x.rotateRight n)) := by
 refine H.q0c.pure q5n rfl rfl ?_
 have e1 : IntKind.u64.wrap (-(n : Int)) = 18446744073709551616 - n := by simp [IntKind.wrap, IntKind.bits, IntKind.signed]; omega
 have e2 : (18446744073709551616 - (n : Int)) % 32 = ((32 - n : Nat) : Int) := by omega
 have e3 : IntKind.u64.wrap (32 - ((32 - n : Nat) : Int)) = (n : Int) := by
  have : 32 - ((32 - n : Nat) : Int) = (n : Int) := by omega
  rw [this]
  exact q70 (by omega) (by omega)
 have e4 : x <<< min (32 - n) 32 ||| x >>> min n 32 = x.rotateRight n := by
  rw [Nat.min_eq_left (by omega), Nat.min_eq_left (by omega)]
  exact j8g x n h
 generalize hm : 32 - n = m at *
 repeat' (simp -dsimp -implicitDefEqProofs [*])
def sig (x : BitVec 32) (a b c : Nat) : BitVec 32 := x.rotateRight a ^^^ x.rotateRight b ^^^ x.rotateRight c
theorem k7t (x : BitVec 32) (a b c : Nat) (ha : a < 32) (ha0 : 0 < a) (hb : b < 32) (hb0 : 0 < b) (hc : c < 32) (hc0 : 0 < c) (st : q5d) : Rets P F.q27 [wv x, .int (a : Int), .int (b : Int), .int (c : Int)] st (wv (sig x a b c)) := by
 refine H.q27.pure q5n rfl rfl ?_
 have w : ∀ n : Nat, n < 32 → IntKind.i64.wrap (-(n : Int)) = -(n : Int) := fun n hn => q5m (by omega) (by omega)
 have wa := w a ha
 have wb := w b hb
 have wc := w c hc
 repeat' (first 
  | (with_reducible refine Rets.xcall (k52 x a ha ha0 _) ?_)
  | (with_reducible refine Rets.xcall (k52 x b hb hb0 _) ?_)
  | (with_reducible refine Rets.xcall (k52 x c hc hc0 _) ?_)
  | (simp -dsimp -implicitDefEqProofs [sig, *]))
open Go.Pv Go.Pv.Sha
set_option maxRecDepth 100000
set_option maxHeartbeats 4000000
theorem j6h (l : List (BitVec 8)) (i : Nat) (h : i < l.length) : (q5e l)[i]? = some (bv (q64 l i)) := by
 rw [k9g l i h]
 simp [q64, h]
def acc (l : List (BitVec 8)) : Nat → BitVec 32
 | 0 => 0#32
 | i + 1 => acc l i <<< 8 ||| (q64 l i).setWidth 32
theorem j3g (t : Bool) (l : List (BitVec 8)) (hl : 4 ≤ l.length) (st : q5d) : Rets P F.q4t [q5s t l] st (wv (z1r (q64 l 0) (q64 l 1) (q64 l 2) (q64 l 3))) := by
 have hb : ∀ i, i < 4 → (q5e l)[i]? = some (bv (q64 l i)) := fun i hi => j6h l i (by omega)
 refine H.q4t.pure q5n rfl rfl ?_
 repeat' (first 
  | ((with_reducible refine q51 ?_ fun hk => ?_); omega)
  | (simp -dsimp -implicitDefEqProofs [*]))
 refine q5g (fun i : Nat => [(0, q5s t l), (2, wv (acc l i)), (6, .list false ((q5e l).take 4) 4), (7, .int 4), (8, .int (i : Nat))]) (fun _ => st) (fun i => i ≤ 4) (fun i => 4 - i) 0 (by omega) (by simp [acc] <;> rfl) (by simp) ?_
 intro i hi
 have hw := q5h (n := i) (by omega)
 by_cases hil : i < 4
 ·have hg : ((q5e l).take 4)[i]? = some (bv (q64 l i)) := by rw [List.getElem?_take, if_pos hil, hb i hil]
  have hlen : ((q5e l).take 4).length = 4 := by simp; omega
  have ha : acc l i <<< 8 ||| (q64 l i).setWidth 32 = acc l (i + 1) := rfl
  generalize (q5e l).take 4 = C at *
  have hgE : ∀ h : i < C.length, C[i]'h = bv (q64 l i) := fun h => by rw [List.getElem?_eq_getElem h] at hg; exact Option.some.inj hg
  repeat' (first 
   | (with_reducible refine And.intro (fun h => ?_) (fun h => ?_)) <;> (try (exfalso; omega))
   | ((with_reducible refine q51 ?_ fun hk => ?_); omega)
   | (simp -dsimp -implicitDefEqProofs [*]))
  exact Next.intro (i + 1) (by omega) (by omega) (by simp) q5q
 ·have e : i = 4 := by omega
  subst e
  have e4 : acc l 4 = z1r (q64 l 0) (q64 l 1) (q64 l 2) (q64 l 3) := j20 ..
  clear hi hw
  repeat' (simp -dsimp -implicitDefEqProofs [*])
abbrev q9o : PObj := .arr T.t64uint32 (q5v nums)
theorem j99 (t : Bool) (l : List (BitVec 8)) (hl : l.length = 64) (i : Nat) (hi : i < 16) (st : q5d) : Rets P F.q4t [.list t ((q5e l).drop (4 * i)) (64 - 4 * i)] st (wv (words l i)) := by
 have h := j3g t (l.drop (4 * i)) (by simp; omega) st
 have e : ∀ j, q64 (l.drop (4 * i)) j = q64 l (4 * i + j) := fun j => by simp [q64]
 have e2 : q5s t (l.drop (4 * i)) = .list t ((q5e l).drop (4 * i)) (64 - 4 * i) := by
  show PV.list t (q5e _) _ = _
  rw [← q8b, List.length_drop, hl]
 rw [e, e, e, e, Nat.add_zero, e2] at h
 exact h
theorem k44 (p : Nat) (s : S8) (t : Bool) (l : List (BitVec 8)) (hl : l.length = 64) (st : q5d) (hp : q6u st p) (hp1 : ¬ p = 1) (hst : q5w st 1 = some q9o) :
  Does P F.q01 [.ptr p 0, q5s t l] ((p, .arr T.digeststate s.row) :: st) (.tuple []) ((p, .arr T.digeststate (block s l).row) :: st) := by
 refine H.q01.view q5n rfl rfl ?_
 have hlr : (q5e l).length = 64 := by simp [hl]
 repeat' (first 
  | (with_reducible refine Fresh.intro fun b hb => ?_) <;> (try simp -dsimp -implicitDefEqProofs [*] at hb)
  | (simp -dsimp -implicitDefEqProofs [*]))
 revert b
 intro w hw
 have hw1 : ¬ w = 1 := (q6m hw.2 hst).1
 refine q5g (fun i : Nat => [(0, .ptr p 0), (1, q5s t l), (4, .ptr w 0), (14, .int (i : Nat))]) (fun i => (w, .arr T.t64uint32 (q5v (wAt (words l) i))) :: (p, .arr T.digeststate s.row) :: st) (fun i => i ≤ 16) (fun i => 16 - i) 0 (by omega) (by simp) (.refl _) ?_
 intro i hi
 have hwi := q5h (n := i) (by omega)
 by_cases hil : i < 16
 ·have h4 : IntKind.i64.wrap (4 * (i : Int)) = 4 * (i : Int) := q5m (by omega) (by omega)
  have h4n : (4 * (i : Int)).toNat = 4 * i := by omega
  have hwd := fun st => j99 t l hl i hil st
  have hset := z29 (words l) (t := i) (by omega)
  rw [j21 _ hil] at hset
  have hWl : (q5v (wAt (words l) i)).length = 64 := by rw [q6s, k3k]
  generalize hW1 : q5v (wAt (words l) (i + 1)) = W1 at *
  generalize q5v (wAt (words l) i) = W at *
  repeat' (first 
   | (with_reducible refine Rets.xcall (hwd _) ?_)
   | (with_reducible refine And.intro (fun h => ?_) (fun h => ?_)) <;> (try (exfalso; omega))
   | ((with_reducible refine q51 ?_ fun hk => ?_); omega)
   | (simp -dsimp -implicitDefEqProofs [*]))
  subst hW1
  exact Next.intro (i + 1) (by omega) (by omega) (by simp) q5q
 ·have e : i = 16 := by omega
  subst e
  clear hi hwi hil
  repeat' (simp -dsimp -implicitDefEqProofs [*])
  refine q5g (fun i : Nat => [(0, .ptr p 0), (4, .ptr w 0), (6, .int (i : Nat))]) (fun i => (w, .arr T.t64uint32 (q5v (wAt (words l) i))) :: (p, .arr T.digeststate s.row) :: st) (fun i => 16 ≤ i ∧ i ≤ 64) (fun i => 64 - i) 16 (by omega) (by simp) (.refl _) ?_
  rintro i ⟨hi0, hi⟩
  have hwi := q5h (n := i) (by omega)
  by_cases hil : i < 64
  ·obtain ⟨j, rfl⟩ : ∃ j, i = j + 16 := ⟨i - 16, by omega⟩
   have hset := z29 (words l) (t := j + 16) hil
   rw [z8z] at hset
   have g0 := k1l (words l) (j := j) (t := j + 16) (by omega) (by omega)
   have g1 := k1l (words l) (j := j + 1) (t := j + 16) (by omega) (by omega)
   have g9 := k1l (words l) (j := j + 9) (t := j + 16) (by omega) (by omega)
   have g14 := k1l (words l) (j := j + 14) (t := j + 16) (by omega) (by omega)
   have w16 : IntKind.i64.wrap (j : Int) = j := k33 (by omega)
   have w15 : IntKind.i64.wrap (((j : Int) + 16) - 15) = (j : Int) + 1 := by rw [q5m (by omega) (by omega)]; omega
   have w7 : IntKind.i64.wrap (((j : Int) + 16) - 7) = (j : Int) + 9 := by rw [q5m (by omega) (by omega)]; omega
   have w2 : IntKind.i64.wrap (((j : Int) + 16) - 2) = (j : Int) + 14 := by rw [q5m (by omega) (by omega)]; omega
   have r : ∀ (x : BitVec 32) (n : Nat) (h : n < 32) (h0 : 0 < n) (st : q5d), Rets P F.q0c [wv x, .int (-(n : Int))] st (wv (x.rotateRight n)) := fun x n h h0 st => k52 x n h h0 st
   have r7 : ∀ (x : BitVec 32) (st : q5d), Rets P F.q0c [wv x, .int (-7)] st (wv (x.rotateRight 7)) := fun x st => r x 7 (by omega) (by omega) st
   have r18 : ∀ (x : BitVec 32) (st : q5d), Rets P F.q0c [wv x, .int (-18)] st (wv (x.rotateRight 18)) := fun x st => r x 18 (by omega) (by omega) st
   have r17 : ∀ (x : BitVec 32) (st : q5d), Rets P F.q0c [wv x, .int (-17)] st (wv (x.rotateRight 17)) := fun x st => r x 17 (by omega) (by omega) st
   have r19 : ∀ (x : BitVec 32) (st : q5d), Rets P F.q0c [wv x, .int (-19)] st (wv (x.rotateRight 19)) := fun x st => r x 19 (by omega) (by omega) st
   clear r
   have n16 : ((j : Int) + 16).toNat = j + 16 := by omega
   have n9 : ((j : Int) + 9).toNat = j + 9 := by omega
   have n14 : ((j : Int) + 14).toNat = j + 14 := by omega
   have hWl : (q5v (wAt (words l) (j + 16))).length = 64 := by rw [q6s, k3k]
   have hkeep : ∀ q, q < j + 16 → (q5v (wAt (words l) (j + 16 + 1)))[q]? = (q5v (wAt (words l) (j + 16)))[q]? := fun q hq => by
    rw [← hset, List.getElem?_set, if_neg (by omega)]
   generalize hW1 : q5v (wAt (words l) (j + 16 + 1)) = W1 at *
   generalize q5v (wAt (words l) (j + 16)) = W at *
   generalize msg (words l) j = m0 at *
   generalize msg (words l) (j + 1) = m1 at *
   generalize msg (words l) (j + 9) = m9 at *
   generalize msg (words l) (j + 14) = m14 at *
   repeat' (first 
    | (with_reducible refine And.intro (fun h => ?_) (fun h => ?_)) <;> (try (exfalso; omega))
    | ((with_reducible refine q51 ?_ fun hk => ?_); omega)
    | (simp -dsimp -implicitDefEqProofs [*]))
   have hcl := ClsU.put (st0 := (p, .arr T.digeststate s.row) :: st) (w := w) (T := T.t64uint32) (n := j + 16) hkeep
   refine DrawLate.by (ClsU ((w, .arr T.t64uint32 W) :: (p, .arr T.digeststate s.row) :: st) w T.t64uint32 W (j + 16)) (ClsU.self (by simp)) ?_
   clear hkeep
   repeat' (first 
    | (with_reducible refine Rets.xcall (r7 _ _) ?_)
    | (with_reducible refine Rets.xcall (r18 _ _) ?_)
    | (with_reducible refine Rets.xcall (r17 _ _) ?_)
    | (with_reducible refine Rets.xcall (r19 _ _) ?_)
    | ((with_reducible refine q51 ?_ fun hk => ?_); omega)
    | (simp -dsimp -implicitDefEqProofs [*]))
   subst hW1
   have hwi2 : IntKind.i64.wrap ((j : Int) + 16 + 1) = (j : Int) + 16 + 1 := q5m (by omega) (by omega)
   exact Next.intro (j + 16 + 1) (by omega) (by omega) (by simp [hwi2]) q5q
  ·have e : i = 64 := by omega
   subst e
   clear hi hwi hil hi0
   repeat' (first 
    | (with_reducible refine Fresh.intro fun b hb => ?_) <;> (try simp -dsimp -implicitDefEqProofs [*] at hb)
    | (simp -dsimp -implicitDefEqProofs [*]))
   revert b
   intro v hv
   have hv1 : ¬ v = 1 := (q6m hv.2.2 hst).1
   refine q5g (fun i : Nat => [(0, .ptr p 0), (4, .ptr w 0), (9, .ptr v 0), (69, .int (i : Nat))]) (fun i => (v, .arr T.digeststate (q6x (words l) s i).row) :: (w, .arr T.t64uint32 (q5v (wAt (words l) 64))) :: (p, .arr T.digeststate s.row) :: st) (fun i => i ≤ 64) (fun i => 64 - i) 0 (by omega) (by simp) (.refl _) ?_
   intro i hi
   have hwi := q5h (n := i) (by omega)
   by_cases hil : i < 64
   ·have gn := z80 hil
    have gw := k1l (words l) (j := i) (t := 64) hil hil
    have hnl : (q5v nums).length = 64 := by rw [q6s]; rfl
    have hWl : (q5v (wAt (words l) 64)).length = 64 := by rw [q6s, k3k]
    have hstep : q6x (words l) s (i + 1) = Sha.step (q6x (words l) s i) (nums.getD i 0) (msg (words l) i) := rfl
    have ro : ∀ (x : BitVec 32) (st : q5d), Rets P F.q27 [wv x, .int 6, .int 11, .int 25] st (wv (Sha.sig x 6 11 25)) := fun x st => k7t x 6 11 25 (by omega) (by omega) (by omega) (by omega) (by omega) (by omega) st
    have ro2 : ∀ (x : BitVec 32) (st : q5d), Rets P F.q27 [wv x, .int 2, .int 13, .int 22] st (wv (Sha.sig x 2 13 22)) := fun x st => k7t x 2 13 22 (by omega) (by omega) (by omega) (by omega) (by omega) (by omega) st
    have hkE : ∀ h : i < nums.length, nums[i]'h = nums.getD i 0 := fun h => by rw [List.getD_eq_getElem?_getD, List.getElem?_eq_getElem h]; rfl
    have hgE : ∀ h : i < (q5v (wAt (words l) 64)).length, (q5v (wAt (words l) 64))[i]'h = wv (msg (words l) i) := fun h => by rw [List.getElem?_eq_getElem h] at gw; exact Option.some.inj gw
    generalize hS1 : q6x (words l) s (i + 1) = S1 at *
    generalize q6x (words l) s i = S0 at *
    generalize nums.getD i 0 = k at *
    generalize msg (words l) i = m at *
    generalize hWW : q5v (wAt (words l) 64) = W at *
    repeat' (first 
     | (with_reducible refine Rets.xcall (ro _ _) ?_)
     | (with_reducible refine Rets.xcall (ro2 _ _) ?_)
     | (with_reducible refine DrawLate.intro [] ?_)
     | (with_reducible refine And.intro (fun h => ?_) (fun h => ?_)) <;> (try (exfalso; omega))
     | (simp -dsimp -implicitDefEqProofs [y78, y4z, *]))
    subst hWW
    refine Next.intro (i + 1) (by omega) (by omega) (by simp) ?_
    show StLe ((v, .arr T.digeststate (q6x (words l) s (i + 1)).row) :: _) _
    rw [hS1, hstep]
    exact .refl _
   ·have e : i = 64 := by omega
    subst e
    clear hi hwi hil
    repeat' (simp -dsimp -implicitDefEqProofs [*])
    refine q5g (fun i : Nat => [(0, .ptr p 0), (9, .ptr v 0), (129, .int (i : Nat))]) (fun i => (v, .arr T.digeststate (q6x (words l) s 64).row) :: (p, .arr T.digeststate (q5v (k6z s (q6x (words l) s 64) i))) :: st) (fun i => i ≤ 8) (fun i => 8 - i) 0 (by omega) (by simp) ?_ ?_
    ·show StLe ((v, .arr T.digeststate (q6x (words l) s 64).row) :: (p, .arr T.digeststate s.row) :: st) _
     exact q5q
    intro i hi
    have hwi := q5h (n := i) (by omega)
    by_cases hil : i < 8
    ·have g1 := j22 s (q6x (words l) s 64) hil
     have g2 := z3a (q6x (words l) s 64) hil
     have hset := j23 s (q6x (words l) s 64) hil
     have hl1 : (q5v (k6z s (q6x (words l) s 64) i)).length = 8 := by rw [q6s, k9j]
     generalize hW1 : q5v (k6z s (q6x (words l) s 64) (i + 1)) = W1 at *
     generalize q5v (k6z s (q6x (words l) s 64) i) = W at *
     generalize hv64 : q6x (words l) s 64 = V at *
     generalize s.words.getD i 0 = x at *
     generalize V.words.getD i 0 = y at *
     have gE1 : ∀ h : i < W.length, W[i]'h = wv x := fun h => by rw [List.getElem?_eq_getElem h] at g1; exact Option.some.inj g1
     have gE2 : ∀ h : i < V.row.length, V.row[i]'h = wv y := fun h => by rw [List.getElem?_eq_getElem h] at g2; exact Option.some.inj g2
     repeat' (first 
      | (with_reducible refine And.intro (fun h => ?_) (fun h => ?_)) <;> (try (exfalso; omega))
      | ((with_reducible refine q51 ?_ fun hk => ?_); omega)
      | (simp -dsimp -implicitDefEqProofs [*]))
     subst hW1
     exact Next.intro (i + 1) (by omega) (by omega) (by simp) q5q
    ·have e : i = 8 := by omega
     subst e
     clear hi hwi hil
     repeat' (simp -dsimp -implicitDefEqProofs [*])
     refine RetView.fresh1 (by simp [*]) (.same ⟨rfl, ?_⟩)
     rfl
open Go.Pv Go.Pv.Sha
set_option maxRecDepth 100000
set_option maxHeartbeats 4000000
theorem k53 (x : BitVec 32) (n : Nat) (h : n < 32) (st : q5d) : Rets P F.q0b [wv x, .int (n : Int)] st (wv (x.rotateRight n)) := by
 refine H.q0b.pure q5n rfl rfl ?_
 have e3 : IntKind.i64.wrap (32 - (n : Int)) = ((32 - n : Nat) : Int) := by rw [q5m (by omega) (by omega)]; omega
 have e4 : x >>> min n 32 ||| x <<< min (32 - n) 32 = x.rotateRight n := by
  rw [Nat.min_eq_left (by omega), Nat.min_eq_left (by omega), BitVec.or_comm]
  exact j8g x n h
 generalize hm : 32 - n = m at *
 repeat' (simp -dsimp -implicitDefEqProofs [*])
theorem z5a (t : Bool) (l : List (BitVec 8)) (hl : 4 ≤ l.length) (st : q5d) : Rets P F.q3o [q5s t l] st (wv (z1r (q64 l 0) (q64 l 1) (q64 l 2) (q64 l 3))) := by
 have hb : ∀ i, i < 4 → ∀ h : i < l.length, l[i] = q64 l i := fun i hi h => by simp [q64, h]
 have h0 := hb 0 (by omega) (by omega)
 have h1 := hb 1 (by omega) (by omega)
 have h2 := hb 2 (by omega) (by omega)
 have h3 := hb 3 (by omega) (by omega)
 have l0 : 0 < l.length := by omega
 have l1 : 1 < l.length := by omega
 have l2 : 2 < l.length := by omega
 have l3 : 3 < l.length := by omega
 refine H.q3o.pure q5n rfl rfl ?_
 repeat' (first 
  | ((with_reducible refine q51 ?_ fun hk => ?_); omega)
  | (simp -dsimp -implicitDefEqProofs [*]))
 rfl
theorem k9n (st : q5d) : Rets P F.q3h [] st (.agg (q5v nums)) := by
 refine H.q3h.pure q5n rfl rfl ?_
 repeat' (first 
  | (with_reducible refine Fresh.intro fun b hb => ?_) <;> (try simp -dsimp -implicitDefEqProofs [*] at hb)
  | (simp -dsimp -implicitDefEqProofs [*]))
 rfl
theorem j0e (l : List (BitVec 8)) (hl : l.length = 64) (i : Nat) (hi : i < 16) (st : q5d) : Rets P F.q3o [.list false (((q5e l).take (4 * i + 4)).drop (4 * i)) 4] st (wv (words l i)) := by
 have h := z5a false ((l.take (4 * i + 4)).drop (4 * i)) (by simp; omega) st
 have e : ∀ j, j < 4 → q64 ((l.take (4 * i + 4)).drop (4 * i)) j = q64 l (4 * i + j) := fun j hj => by
  simp only [q64, List.getD_eq_getElem?_getD, List.getElem?_drop, List.getElem?_take]
  rw [if_pos (by omega)]
 have e2 : q5s false ((l.take (4 * i + 4)).drop (4 * i)) = .list false (((q5e l).take (4 * i + 4)).drop (4 * i)) 4 := by
  show PV.list false (q5e _) _ = _
  rw [q94, q8b, List.length_drop, List.length_take, hl, Nat.min_eq_left (by omega)]
  congr 1
  omega
 rw [e 0 (by omega), e 1 (by omega), e 2 (by omega), e 3 (by omega), Nat.add_zero, e2] at h
 exact h
theorem z3c (s : S8) (t : Bool) (l : List (BitVec 8)) (hl : l.length = 64) (st : q5d) : Rets P F.q31 [.agg s.row, q5s t l] st (.agg (block s l).row) := by
 refine H.q31.pure q5n rfl rfl ?_
 have hlr : (q5e l).length = 64 := by simp [hl]
 have hsr : s.row.length = 8 := rfl
 repeat' (first 
  | (with_reducible refine Fresh.intro fun b hb => ?_) <;> (try simp -dsimp -implicitDefEqProofs [*] at hb)
  | (simp -dsimp -implicitDefEqProofs [*]))
 revert b
 intro w hw
 revert b
 intro r hr hw
 revert b
 intro p hp hr hw
 refine q5g (fun i : Nat => [(1, q5s t l), (2, .ptr p 0), (4, .ptr r 0), (5, .ptr w 0), (6, .int (i : Nat))]) (fun i => (w, .arr T.t64uint32 (q5v (wAt (words l) i))) :: (r, .arr T.t8uint32 (S8.mk 0 0 0 0 0 0 0 0).row) :: (p, .arr T.t8uint32 s.row) :: st) (fun i => i ≤ 16) (fun i => 16 - i) 0 (by omega) (by simp) (.refl _) ?_
 intro i hi
 have hwi := q5h (n := i) (by omega)
 by_cases hil : i < 16
 ·have h4 : IntKind.i64.wrap (4 * (i : Int)) = 4 * (i : Int) := q5m (by omega) (by omega)
  have h44 : IntKind.i64.wrap (4 * (i : Int) + 4) = 4 * (i : Int) + 4 := q5m (by omega) (by omega)
  have h4n : (4 * (i : Int)).toNat = 4 * i := by omega
  have h44n : (4 * (i : Int) + 4).toNat = 4 * i + 4 := by omega
  have hwd := fun st => j0e l hl i hil st
  have hset := z29 (words l) (t := i) (by omega)
  rw [j21 _ hil] at hset
  have hWl : (q5v (wAt (words l) i)).length = 64 := by rw [q6s, k3k]
  generalize hW1 : q5v (wAt (words l) (i + 1)) = W1 at *
  generalize q5v (wAt (words l) i) = W at *
  repeat' (first 
   | (with_reducible refine Rets.xcall (hwd _) ?_)
   | (with_reducible refine And.intro (fun h => ?_) (fun h => ?_)) <;> (try (exfalso; omega))
   | ((with_reducible refine q51 ?_ fun hk => ?_); omega)
   | (simp -dsimp -implicitDefEqProofs [*]))
  subst hW1
  exact Next.intro (i + 1) (by omega) (by omega) (by simp) q5q
 ·have e : i = 16 := by omega
  subst e
  clear hi hwi hil
  repeat' (simp -dsimp -implicitDefEqProofs [*])
  refine q5g (fun i : Nat => [(2, .ptr p 0), (4, .ptr r 0), (5, .ptr w 0), (7, .int (i : Nat))]) (fun i => (w, .arr T.t64uint32 (q5v (wAt (words l) i))) :: (r, .arr T.t8uint32 (S8.mk 0 0 0 0 0 0 0 0).row) :: (p, .arr T.t8uint32 s.row) :: st) (fun i => 16 ≤ i ∧ i ≤ 64) (fun i => 64 - i) 16 (by omega) (by simp) (.refl _) ?_
  rintro i ⟨hi0, hi⟩
  have hwi := q5h (n := i) (by omega)
  by_cases hil : i < 64
  ·obtain ⟨j, rfl⟩ : ∃ j, i = j + 16 := ⟨i - 16, by omega⟩
   have hset := z29 (words l) (t := j + 16) hil
   rw [z8z] at hset
   have g0 := k1l (words l) (j := j) (t := j + 16) (by omega) (by omega)
   have g1 := k1l (words l) (j := j + 1) (t := j + 16) (by omega) (by omega)
   have g9 := k1l (words l) (j := j + 9) (t := j + 16) (by omega) (by omega)
   have g14 := k1l (words l) (j := j + 14) (t := j + 16) (by omega) (by omega)
   have w16 : IntKind.i64.wrap (j : Int) = j := k33 (by omega)
   have w15 : IntKind.i64.wrap (((j : Int) + 16) - 15) = (j : Int) + 1 := by rw [q5m (by omega) (by omega)]; omega
   have w7 : IntKind.i64.wrap (((j : Int) + 16) - 7) = (j : Int) + 9 := by rw [q5m (by omega) (by omega)]; omega
   have w2 : IntKind.i64.wrap (((j : Int) + 16) - 2) = (j : Int) + 14 := by rw [q5m (by omega) (by omega)]; omega
   have r7 : ∀ (x : BitVec 32) (st : q5d), Rets P F.q0b [wv x, .int 7] st (wv (x.rotateRight 7)) := fun x st => k53 x 7 (by omega) st
   have r18 : ∀ (x : BitVec 32) (st : q5d), Rets P F.q0b [wv x, .int 18] st (wv (x.rotateRight 18)) := fun x st => k53 x 18 (by omega) st
   have r17 : ∀ (x : BitVec 32) (st : q5d), Rets P F.q0b [wv x, .int 17] st (wv (x.rotateRight 17)) := fun x st => k53 x 17 (by omega) st
   have r19 : ∀ (x : BitVec 32) (st : q5d), Rets P F.q0b [wv x, .int 19] st (wv (x.rotateRight 19)) := fun x st => k53 x 19 (by omega) st
   have n16 : ((j : Int) + 16).toNat = j + 16 := by omega
   have n9 : ((j : Int) + 9).toNat = j + 9 := by omega
   have n14 : ((j : Int) + 14).toNat = j + 14 := by omega
   have hWl : (q5v (wAt (words l) (j + 16))).length = 64 := by rw [q6s, k3k]
   have hkeep : ∀ q, q < j + 16 → (q5v (wAt (words l) (j + 16 + 1)))[q]? = (q5v (wAt (words l) (j + 16)))[q]? := fun q hq => by
    rw [← hset, List.getElem?_set, if_neg (by omega)]
   generalize hW1 : q5v (wAt (words l) (j + 16 + 1)) = W1 at *
   generalize q5v (wAt (words l) (j + 16)) = W at *
   generalize msg (words l) j = m0 at *
   generalize msg (words l) (j + 1) = m1 at *
   generalize msg (words l) (j + 9) = m9 at *
   generalize msg (words l) (j + 14) = m14 at *
   generalize hst0 : (r, PObj.arr T.t8uint32 (S8.mk 0 0 0 0 0 0 0 0).row) :: (p, .arr T.t8uint32 s.row) :: st = st0 at *
   repeat' (first 
    | (with_reducible refine And.intro (fun h => ?_) (fun h => ?_)) <;> (try (exfalso; omega))
    | ((with_reducible refine q51 ?_ fun hk => ?_); omega)
    | (simp -dsimp -implicitDefEqProofs [*]))
   have hcl := ClsU.put (st0 := st0) (w := w) (T := T.t64uint32) (n := j + 16) hkeep
   refine DrawLate.by (ClsU ((w, .arr T.t64uint32 W) :: st0) w T.t64uint32 W (j + 16)) (ClsU.self (by simp)) ?_
   clear hkeep
   repeat' (first 
    | (with_reducible refine Rets.xcall (r7 _ _) ?_)
    | (with_reducible refine Rets.xcall (r18 _ _) ?_)
    | (with_reducible refine Rets.xcall (r17 _ _) ?_)
    | (with_reducible refine Rets.xcall (r19 _ _) ?_)
    | ((with_reducible refine q51 ?_ fun hk => ?_); omega)
    | (simp -dsimp -implicitDefEqProofs [*]))
   subst hW1
   subst hst0
   have hwi2 : IntKind.i64.wrap ((j : Int) + 16 + 1) = (j : Int) + 16 + 1 := q5m (by omega) (by omega)
   exact Next.intro (j + 16 + 1) (by omega) (by omega) (by simp [hwi2]) q5q
  ·have e : i = 64 := by omega
   subst e
   clear hi hwi hil hi0
   have hnl : nums.length = 64 := rfl
   repeat' (first 
    | (with_reducible refine Fresh.intro fun b hb => ?_) <;> (try simp -dsimp -implicitDefEqProofs [*] at hb)
    | (with_reducible refine Rets.xcall (k9n _) ?_)
    | (simp -dsimp -implicitDefEqProofs [*]))
   revert b
   intro q hq
   refine q5g (fun i : Nat => [(2, .ptr p 0), (4, .ptr r 0), (5, .ptr w 0), (10, .ptr q 0), (11, wv (q6x (words l) s i).a), (12, wv (q6x (words l) s i).b), (13, wv (q6x (words l) s i).c), (14, wv (q6x (words l) s i).d), (15, wv (q6x (words l) s i).e), (16, wv (q6x (words l) s i).f), (17, wv (q6x (words l) s i).g), (18, wv (q6x (words l) s i).h), (19, .int (i : Nat))])
    (fun _ => (q, .arr T.t64uint32 (q5v nums)) :: (w, .arr T.t64uint32 (q5v (wAt (words l) 64))) :: (r, .arr T.t8uint32 (S8.mk 0 0 0 0 0 0 0 0).row) :: (p, .arr T.t8uint32 s.row) :: st) (fun i => i ≤ 64) (fun i => 64 - i) 0 (by omega) (by simp [q6x]) (.refl _) ?_
   intro i hi
   have hwi := q5h (n := i) (by omega)
   by_cases hil : i < 64
   ·have gn := z80 hil
    have gw := k1l (words l) (j := i) (t := 64) hil hil
    have hWl : (q5v (wAt (words l) 64)).length = 64 := by rw [q6s, k3k]
    have hstep : q6x (words l) s (i + 1) = Sha.step (q6x (words l) s i) (nums.getD i 0) (msg (words l) i) := rfl
    have ro : ∀ (n : Nat) (x : BitVec 32) (st : q5d), n < 32 → Rets P F.q0b [wv x, .int (n : Int)] st (wv (x.rotateRight n)) := fun n x st h => k53 x n h st
    have r6 : ∀ (x : BitVec 32) (st : q5d), Rets P F.q0b [wv x, .int 6] st (wv (x.rotateRight 6)) := fun x st => ro 6 x st (by omega)
    have r11 : ∀ (x : BitVec 32) (st : q5d), Rets P F.q0b [wv x, .int 11] st (wv (x.rotateRight 11)) := fun x st => ro 11 x st (by omega)
    have r25 : ∀ (x : BitVec 32) (st : q5d), Rets P F.q0b [wv x, .int 25] st (wv (x.rotateRight 25)) := fun x st => ro 25 x st (by omega)
    have r2 : ∀ (x : BitVec 32) (st : q5d), Rets P F.q0b [wv x, .int 2] st (wv (x.rotateRight 2)) := fun x st => ro 2 x st (by omega)
    have r13 : ∀ (x : BitVec 32) (st : q5d), Rets P F.q0b [wv x, .int 13] st (wv (x.rotateRight 13)) := fun x st => ro 13 x st (by omega)
    have r22 : ∀ (x : BitVec 32) (st : q5d), Rets P F.q0b [wv x, .int 22] st (wv (x.rotateRight 22)) := fun x st => ro 22 x st (by omega)
    have hkE : ∀ h : i < nums.length, nums[i]'h = nums.getD i 0 := fun h => by rw [List.getD_eq_getElem?_getD, List.getElem?_eq_getElem h]; rfl
    have hgE : ∀ h : i < (q5v (wAt (words l) 64)).length, (q5v (wAt (words l) 64))[i]'h = wv (msg (words l) i) := fun h => by rw [List.getElem?_eq_getElem h] at gw; exact Option.some.inj gw
    clear ro
    generalize hS1 : q6x (words l) s (i + 1) = S1 at *
    generalize hS0 : q6x (words l) s i = S0 at *
    generalize nums.getD i 0 = k at *
    generalize msg (words l) i = m at *
    generalize hWW : q5v (wAt (words l) 64) = W at *
    repeat' (first 
     | (with_reducible refine Rets.xcall (r6 _ _) ?_)
     | (with_reducible refine Rets.xcall (r11 _ _) ?_)
     | (with_reducible refine Rets.xcall (r25 _ _) ?_)
     | (with_reducible refine Rets.xcall (r2 _ _) ?_)
     | (with_reducible refine Rets.xcall (r13 _ _) ?_)
     | (with_reducible refine Rets.xcall (r22 _ _) ?_)
     | (with_reducible refine DrawLate.intro [] ?_)
     | (with_reducible refine And.intro (fun h => ?_) (fun h => ?_)) <;> (try (exfalso; omega))
     | (simp -dsimp -implicitDefEqProofs [*]))
    refine Next.intro (i + 1) (by omega) (by omega) ?_ q5q
    simp only [hS1, hstep]
    simp [Sha.step, t1, t2, Sha.sig]
   ·have e : i = 64 := by omega
    subst e
    clear hi hwi hil
    have hpl : y8a s (q6x (words l) s 64) = block s l := rfl
    generalize hV : q6x (words l) s 64 = V at *
    repeat' (simp -dsimp -implicitDefEqProofs [*])
    rw [← hpl]
    rfl
end Go.Proofs.YtnooplpbpfiapaaGreatDoor
