/- Small functions of package seal. -/
import Derived.Test.YtmgpkcpalpejcaaDoorCode
import Derived.Test.YtmgpkcpalpejcaaDoorLNt
namespace Go.Proofs.YtmgpkcpalpejcaaDoor
open Go.Pv
set_option maxRecDepth 100000
theorem caught_ret (b : Nat) (st : Store) : Defs P F.seal_caught [.ptr b 0] .returning st .returning st := by
  refine H.seal_caught.defs hmix rfl rfl ?_
  repeat' (simp -dsimp -implicitDefEqProofs [*])
theorem caught_pan (b : Nat) (n m : Int) (st : Store) (hb : sget st b = some (.arr T.apiErrno [.int m])) : Defs P F.seal_caught [.ptr b 0] (.panicking (.iface T.apiErrno (.int n))) st .returning (sset st b (.arr T.apiErrno [.int n])) := by
  refine H.seal_caught.defs hmix rfl rfl ?_
  repeat' (simp -dsimp -implicitDefEqProofs [*])
theorem need_ok (st : Store) : Rets P F.seal_need [.bool true] st (.tuple []) := by
  refine H.seal_need.pure hmix rfl rfl ?_
  repeat' (simp -dsimp -implicitDefEqProofs [*])
theorem need_no (st : Store) : Panics P F.seal_need [.bool false] st (.iface T.apiErrno (.int 340)) := by
  refine H.seal_need.panics hmix rfl rfl ?_
  repeat' (simp -dsimp -implicitDefEqProofs [*])
def wi (n most : Int) : Bool := decide (0 ≤ n) && decide (n ≤ most)
theorem within_spec (n most : Int) (st : Store) : Rets P F.seal_within [.int n, .int most] st (.bool (wi n most)) := by
  refine H.seal_within.pure hmix rfl rfl ?_
  repeat' (first 
   | (with_reducible refine And.intro (fun h => ?_) (fun h => ?_)) <;> (try (exfalso; omega))
   | (simp -dsimp -implicitDefEqProofs [wi, *]))
  all_goals (intros; omega)
theorem all1_spec (n most : Int) (st : Store) : Rets P F.seal_all_1 [.int n, .iptr [.int most] 0] st (.bool (!wi n most)) := by
  refine H.seal_all_1.pure hmix rfl rfl ?_
  repeat' (first 
   | (with_reducible refine Rets.xcall (within_spec _ _ _) ?_)
   | (simp -dsimp -implicitDefEqProofs [*]))
structure Place where
  round : Int
  entry : Int
  judge : Int
  deriving DecidableEq, Inhabited
def Place.enc (x : Place) : List PV := [.int x.round, .int x.entry, .int x.judge]
abbrev Place.pv (x : Place) : PV := .agg x.enc
@[simp] theorem Place.len (x : Place) : x.enc.length = 3 := rfl
@[simp] theorem Place.subAll (x : Place) : sub x.enc 0 3 = some x.enc := rfl
@[simp] theorem Place.get0 (x : Place) : x.enc[0]? = some (.int x.round) := rfl
@[simp] theorem Place.getE0 (x : Place) (h : 0 < x.enc.length) : x.enc[0]'h = .int x.round := rfl
@[simp] theorem Place.set0 (x : Place) (v : Int) : List.set x.enc 0 (.int v) = (Place.mk v x.entry x.judge).enc := rfl
@[simp] theorem Place.get1 (x : Place) : x.enc[1]? = some (.int x.entry) := rfl
@[simp] theorem Place.getE1 (x : Place) (h : 1 < x.enc.length) : x.enc[1]'h = .int x.entry := rfl
@[simp] theorem Place.set1 (x : Place) (v : Int) : List.set x.enc 1 (.int v) = (Place.mk x.round v x.judge).enc := rfl
@[simp] theorem Place.get2 (x : Place) : x.enc[2]? = some (.int x.judge) := rfl
@[simp] theorem Place.getE2 (x : Place) (h : 2 < x.enc.length) : x.enc[2]'h = .int x.judge := rfl
@[simp] theorem Place.set2 (x : Place) (v : Int) : List.set x.enc 2 (.int v) = (Place.mk x.round x.entry v).enc := rfl
@[simp] theorem Place.fz (b : Nat) (o : PObj) (k : Nat) (x : Place) : fzps b o k x.enc = x.enc := rfl
theorem Place.fold (v0 v1 v2 : Int) : [PV.int v0, PV.int v1, PV.int v2] = (Place.mk v0 v1 v2).enc := rfl
@[simp] theorem Place.fill (x y : Place) : setCells x.enc 0 y.enc = y.enc := rfl
@[simp] theorem Place.eq (x y : Place) : eqCells [.int, .int, .int] x.enc y.enc = some (decide (x = y)) := by
  simp [Place.enc]
  cases x; cases y; simp [Place.mk.injEq]
@[simp] theorem Place.key (x : Place) : PV.vals? x.enc = some [.int .i64 x.round, .int .i64 x.entry, .int .i64 x.judge] := rfl
def Place.row (l : List Place) : List PV := l.flatMap Place.enc
abbrev Place.lst (t : Bool) (l : List Place) : PV := .list t (Place.row l) l.length
@[simp] theorem Place.row_len (l : List Place) : (Place.row l).length = l.length * 3 := flat_length Place.enc 3 Place.len l
@[simp] theorem Place.row_nil : Place.row [] = [] := rfl
@[simp] theorem Place.row_cons (x : Place) (l : List Place) : Place.row (x :: l) = x.enc ++ Place.row l := rfl
theorem Place.row_append (l m : List Place) : Place.row (l ++ m) = Place.row l ++ Place.row m := by simp [Place.row]
@[simp] theorem Place.row_eq_nil (l : List Place) : Place.row l = [] ↔ l = [] := by
  constructor
  · intro h
    have := congrArg List.length h
    rw [Place.row_len] at this
    cases l with
    | nil => rfl
    | cons => simp at this
  · rintro rfl; rfl
@[simp] theorem Place.row_sub (l : List Place) (i : Nat) (h : i < l.length) : sub (Place.row l) (i * 3) 3 = some (l[i]).enc := flat_sub Place.enc 3 Place.len l i h
theorem Place.row_drop (l : List Place) (i : Nat) : (Place.row l).drop (i * 3) = Place.row (l.drop i) := flat_drop Place.enc 3 Place.len l i
theorem Place.row_take (l : List Place) (i : Nat) : (Place.row l).take (i * 3) = Place.row (l.take i) := flat_take Place.enc 3 Place.len l i
@[simp] theorem Place.row_getE0 (l : List Place) (i : Nat) (h : i * 3 < (Place.row l).length) : (Place.row l)[i * 3]'h = .int (l[i]'(by rw [Place.row_len] at h; omega)).round := by
  have hl : i < l.length := by rw [Place.row_len] at h; omega
  have := flat_get Place.enc 3 Place.len l i 0 hl (by omega)
  have h2 : (Place.row l)[i * 3]? = some (.int l[i].round) := this
  rw [List.getElem?_eq_getElem h] at h2
  exact Option.some.inj h2
@[simp] theorem Place.row_get0 (l : List Place) (i : Nat) (h : i < l.length) : (Place.row l)[i * 3]? = some (.int l[i].round) := flat_get Place.enc 3 Place.len l i 0 h (by omega)
@[simp] theorem Place.row_getE1 (l : List Place) (i : Nat) (h : i * 3 + 1 < (Place.row l).length) : (Place.row l)[i * 3 + 1]'h = .int (l[i]'(by rw [Place.row_len] at h; omega)).entry := by
  have hl : i < l.length := by rw [Place.row_len] at h; omega
  have := flat_get Place.enc 3 Place.len l i 1 hl (by omega)
  have h2 : (Place.row l)[i * 3 + 1]? = some (.int l[i].entry) := this
  rw [List.getElem?_eq_getElem h] at h2
  exact Option.some.inj h2
@[simp] theorem Place.row_get1 (l : List Place) (i : Nat) (h : i < l.length) : (Place.row l)[i * 3 + 1]? = some (.int l[i].entry) := flat_get Place.enc 3 Place.len l i 1 h (by omega)
@[simp] theorem Place.row_getE2 (l : List Place) (i : Nat) (h : i * 3 + 2 < (Place.row l).length) : (Place.row l)[i * 3 + 2]'h = .int (l[i]'(by rw [Place.row_len] at h; omega)).judge := by
  have hl : i < l.length := by rw [Place.row_len] at h; omega
  have := flat_get Place.enc 3 Place.len l i 2 hl (by omega)
  have h2 : (Place.row l)[i * 3 + 2]? = some (.int l[i].judge) := this
  rw [List.getElem?_eq_getElem h] at h2
  exact Option.some.inj h2
@[simp] theorem Place.row_get2 (l : List Place) (i : Nat) (h : i < l.length) : (Place.row l)[i * 3 + 2]? = some (.int l[i].judge) := flat_get Place.enc 3 Place.len l i 2 h (by omega)
theorem Place.row_set (l : List Place) (i : Nat) (x : Place) (h : i < l.length) : setCells (Place.row l) (i * 3) x.enc = Place.row (l.set i x) := flat_set Place.enc 3 Place.len l i x h
theorem Place.row_fz (b : Nat) (o : PObj) (k : Nat) (l : List Place) : fzps b o k (Place.row l) = Place.row l := flat_fz Place.enc Place.fz b o k l
attribute [simp] Place.row_fz

/-- A sealed card. -/
def sealedEnc (r e j : Int) (t : Bool) (l : List Int) (c : List PV) : List PV := [.int r, .int e, .int j, intLst t l] ++ c
def placeOk (r e j : Int) : Bool := wi r 7 && wi e 4095 && wi j 255
theorem placed_ok (r e j : Int) (t : Bool) (l : List Int) (c : List PV) (h : placeOk r e j = true) (st : Store) : Rets P F.seal_placed [.agg (sealedEnc r e j t l c)] st (.tuple []) := by
  refine H.seal_placed.pure hmix rfl rfl ?_
  simp [placeOk] at h
  repeat' (first 
   | (with_reducible refine Fresh.intro fun b hb => ?_) <;> (try simp -dsimp -implicitDefEqProofs [*] at hb)
   | (with_reducible refine Rets.xcall (within_spec _ _ _) ?_)
   | (with_reducible refine Rets.xcall (need_ok _) ?_)
   | (simp -dsimp -implicitDefEqProofs [sealedEnc, *]))
theorem placed_no (r e j : Int) (t : Bool) (l : List Int) (c : List PV) (h : placeOk r e j = false) (st : Store) : Panics P F.seal_placed [.agg (sealedEnc r e j t l c)] st (.iface T.apiErrno (.int 340)) := by
  refine H.seal_placed.panics hmix rfl rfl ?_
  have h2 : wi r 7 = true → wi e 4095 = true → wi j 255 = false := fun a b => by simpa [placeOk, a, b] using h
  cases h3 : wi r 7 with
  | false =>
    clear h h2
    repeat' (first 
     | (with_reducible refine Fresh.intro fun b hb => ?_) <;> (try simp -dsimp -implicitDefEqProofs [*] at hb)
     | (with_reducible refine Rets.xcall (within_spec _ _ _) ?_)
     | (with_reducible refine Panics.xcall (need_no _) ?_)
     | (simp -dsimp -implicitDefEqProofs [sealedEnc, *]))
  | true =>
    cases h4 : wi e 4095 with
    | false =>
      clear h h2
      repeat' (first 
       | (with_reducible refine Fresh.intro fun b hb => ?_) <;> (try simp -dsimp -implicitDefEqProofs [*] at hb)
       | (with_reducible refine Rets.xcall (within_spec _ _ _) ?_)
       | (with_reducible refine Panics.xcall (need_no _) ?_)
       | (simp -dsimp -implicitDefEqProofs [sealedEnc, *]))
    | true =>
      have h5 := h2 h3 h4
      clear h h2
      repeat' (first 
       | (with_reducible refine Fresh.intro fun b hb => ?_) <;> (try simp -dsimp -implicitDefEqProofs [*] at hb)
       | (with_reducible refine Rets.xcall (within_spec _ _ _) ?_)
       | (with_reducible refine Panics.xcall (need_no _) ?_)
       | (simp -dsimp -implicitDefEqProofs [sealedEnc, *]))
end Go.Proofs.YtmgpkcpalpejcaaDoor
/- SHA-256: words. -/
namespace Go.Proofs.YtmgpkcpalpejcaaDoor
open Go.Pv
set_option maxRecDepth 100000
theorem rotl_spec (x : BitVec 32) (n : Nat) (h : n < 32) (h0 : 0 < n) (st : Store) : Rets P F.math_bits_RotateLeft32 [wv x, .int (-(n : Int))] st (wv (x.rotateRight n)) := by
  refine H.math_bits_RotateLeft32.pure hmix rfl rfl ?_
  have e1 : IntKind.u64.wrap (-(n : Int)) = 18446744073709551616 - n := by simp [IntKind.wrap, IntKind.bits, IntKind.signed]; omega
  have e2 : (18446744073709551616 - (n : Int)) % 32 = ((32 - n : Nat) : Int) := by omega
  have e3 : IntKind.u64.wrap (32 - ((32 - n : Nat) : Int)) = (n : Int) := by
    have : 32 - ((32 - n : Nat) : Int) = (n : Int) := by omega
    rw [this]
    exact u64_in (by omega) (by omega)
  have e4 : x <<< min (32 - n) 32 ||| x >>> min n 32 = x.rotateRight n := by
    rw [Nat.min_eq_left (by omega), Nat.min_eq_left (by omega)]
    exact rot_eq x n h
  generalize hm : 32 - n = m at *
  repeat' (simp -dsimp -implicitDefEqProofs [*])
def sig (x : BitVec 32) (a b c : Nat) : BitVec 32 := x.rotateRight a ^^^ x.rotateRight b ^^^ x.rotateRight c
theorem rotated_spec (x : BitVec 32) (a b c : Nat) (ha : a < 32) (ha0 : 0 < a) (hb : b < 32) (hb0 : 0 < b) (hc : c < 32) (hc0 : 0 < c) (st : Store) : Rets P F.digest_rotated [wv x, .int (a : Int), .int (b : Int), .int (c : Int)] st (wv (sig x a b c)) := by
  refine H.digest_rotated.pure hmix rfl rfl ?_
  have w : ∀ n : Nat, n < 32 → IntKind.i64.wrap (-(n : Int)) = -(n : Int) := fun n hn => wrap_in (by omega) (by omega)
  have wa := w a ha
  have wb := w b hb
  have wc := w c hc
  repeat' (first 
   | (with_reducible refine Rets.xcall (rotl_spec x a ha ha0 _) ?_)
   | (with_reducible refine Rets.xcall (rotl_spec x b hb hb0 _) ?_)
   | (with_reducible refine Rets.xcall (rotl_spec x c hc hc0 _) ?_)
   | (simp -dsimp -implicitDefEqProofs [sig, *]))
end Go.Proofs.YtmgpkcpalpejcaaDoor
