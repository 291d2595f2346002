/- Numbers, keys and entries as they stand in the cells; which of two numbers is greater. -/
import Derived.Test.YtliglilanpfjhaaS21ZG
import Derived.Test.YtliglilanpfjhaaS21P
import Derived.Test.YtliglilanpfjhaaLLx
namespace Go.Proofs.Ytliglilanpfjhaa
open Go.Pv
set_option maxRecDepth 100000
set_option maxHeartbeats 8000000
/-- A number in its cells, right or not. -/
structure Rw where
  s1 : Bool
  L1 : List Int
  s2 : Bool
  L2 : List Int
  deriving Inhabited, DecidableEq
def Rw.enc (r : Rw) : List PV := [.bool r.s1, .list false (intRow r.L1) r.L1.length, .bool r.s2, .list false (intRow r.L2) r.L2.length]
abbrev Rw.pv (r : Rw) : PV := .agg r.enc
def Rw.Len (r : Rw) : Prop := r.L1.length ≤ 100000 ∧ r.L2.length ≤ 100000
def Rw.good (r : Rw) : Bool := ratOk r.s1 r.L1 r.s2 r.L2 && (decide (r.L1.length ≤ 1024) && decide (r.L2.length ≤ 1024))
def Rw.val (r : Rw) : Rat := ratV r.s1 r.L1 r.L2
theorem plain_intRow (b : Nat) (o : PObj) (k : Nat) (l : List Int) : fzps b o k (intRow l) = intRow l := fzps_plain b o k fun p hp => by
  unfold intRow at hp
  obtain ⟨x, -, rfl⟩ := List.mem_map.1 hp
  rfl
section
variable (r : Rw) (b k : Nat) (o : PObj)
@[simp] theorem Rw.len : r.enc.length = 4 := rfl
@[simp] theorem Rw.sub_all : sub r.enc 0 4 = some r.enc := rfl
@[simp] theorem Rw.get1 : r.enc[1]? = some (.list false (intRow r.L1) r.L1.length) := rfl
@[simp] theorem Rw.get3 : r.enc[3]? = some (.list false (intRow r.L2) r.L2.length) := rfl
@[simp] theorem Rw.getE1 (h : 1 < r.enc.length) : r.enc[1]'h = .list false (intRow r.L1) r.L1.length := rfl
@[simp] theorem Rw.getE3 (h : 3 < r.enc.length) : r.enc[3]'h = .list false (intRow r.L2) r.L2.length := rfl
@[simp] theorem Rw.fz : fzps b o k r.enc = r.enc := by simp [Rw.enc, plain_intRow]
end
def Rw.row (l : List Rw) : List PV := l.flatMap Rw.enc
@[simp] theorem Rw.row_len (l : List Rw) : (Rw.row l).length = l.length * 4 := flat_length Rw.enc 4 Rw.len l
@[simp] theorem Rw.row_sub (l : List Rw) (i : Nat) (h : i < l.length) : sub (Rw.row l) (i * 4) 4 = some (l[i]).enc := flat_sub Rw.enc 4 Rw.len l i h
@[simp] theorem Rw.row_fz (b : Nat) (o : PObj) (k : Nat) (l : List Rw) : fzps b o k (Rw.row l) = Rw.row l := flat_fz Rw.enc (fun b o k x => Rw.fz x b k o) b o k l
abbrev Rw.lst (l : List Rw) : PV := .list false (Rw.row l) l.length
/-- A key in its cells. -/
structure Ke where
  kind : Int
  name : ByteArray
  n : Int
  deriving Inhabited
def Ke.enc (r : Ke) : List PV := [.int r.kind, .str r.name, .int r.n]
abbrev Ke.pv (r : Ke) : PV := .agg r.enc
section
variable (r : Ke) (b k : Nat) (o : PObj)
@[simp] theorem Ke.len : r.enc.length = 3 := rfl
@[simp] theorem Ke.sub_all : sub r.enc 0 3 = some r.enc := rfl
@[simp] theorem Ke.get0 : r.enc[0]? = some (.int r.kind) := rfl
@[simp] theorem Ke.get2 : r.enc[2]? = some (.int r.n) := rfl
@[simp] theorem Ke.getE0 (h : 0 < r.enc.length) : r.enc[0]'h = .int r.kind := rfl
@[simp] theorem Ke.getE2 (h : 2 < r.enc.length) : r.enc[2]'h = .int r.n := rfl
@[simp] theorem Ke.fz : fzps b o k r.enc = r.enc := by simp [Ke.enc]
end
def Ke.row (l : List Ke) : List PV := l.flatMap Ke.enc
@[simp] theorem Ke.row_len (l : List Ke) : (Ke.row l).length = l.length * 3 := flat_length Ke.enc 3 Ke.len l
@[simp] theorem Ke.row_sub (l : List Ke) (i : Nat) (h : i < l.length) : sub (Ke.row l) (i * 3) 3 = some (l[i]).enc := flat_sub Ke.enc 3 Ke.len l i h
@[simp] theorem Ke.row_fz (b : Nat) (o : PObj) (k : Nat) (l : List Ke) : fzps b o k (Ke.row l) = Ke.row l := flat_fz Ke.enc (fun b o k x => Ke.fz x b k o) b o k l
theorem Ke.row_append (l m : List Ke) : Ke.row (l ++ m) = Ke.row l ++ Ke.row m := by simp [Ke.row]
abbrev Ke.lst (l : List Ke) : PV := .list false (Ke.row l) l.length
/-- An entry in its cells. -/
structure Ky where
  entry : Int
  score : Rw
  totals : List Rw
  prev : List Rw
  high : Int
  bonus : Int
  lot : Int
  deriving Inhabited
def Ky.enc (x : Ky) : List PV := [.int x.entry, .bool x.score.s1, .list false (intRow x.score.L1) x.score.L1.length, .bool x.score.s2, .list false (intRow x.score.L2) x.score.L2.length, .list false (Rw.row x.totals) x.totals.length, .list false (Rw.row x.prev) x.prev.length, .int x.high, .int x.bonus, .int x.lot]
abbrev Ky.pv (x : Ky) : PV := .agg x.enc
section
variable (x : Ky) (b k : Nat) (o : PObj)
@[simp] theorem Ky.len : x.enc.length = 10 := rfl
@[simp] theorem Ky.sub_all : sub x.enc 0 10 = some x.enc := rfl
@[simp] theorem Ky.sub_score : sub x.enc 1 4 = some x.score.enc := rfl
@[simp] theorem Ky.get0 : x.enc[0]? = some (.int x.entry) := rfl
@[simp] theorem Ky.get5 : x.enc[5]? = some (.list false (Rw.row x.totals) x.totals.length) := rfl
@[simp] theorem Ky.get6 : x.enc[6]? = some (.list false (Rw.row x.prev) x.prev.length) := rfl
@[simp] theorem Ky.get7 : x.enc[7]? = some (.int x.high) := rfl
@[simp] theorem Ky.get8 : x.enc[8]? = some (.int x.bonus) := rfl
@[simp] theorem Ky.get9 : x.enc[9]? = some (.int x.lot) := rfl
@[simp] theorem Ky.getE0 (h : 0 < x.enc.length) : x.enc[0]'h = .int x.entry := rfl
@[simp] theorem Ky.getE5 (h : 5 < x.enc.length) : x.enc[5]'h = .list false (Rw.row x.totals) x.totals.length := rfl
@[simp] theorem Ky.getE6 (h : 6 < x.enc.length) : x.enc[6]'h = .list false (Rw.row x.prev) x.prev.length := rfl
@[simp] theorem Ky.getE7 (h : 7 < x.enc.length) : x.enc[7]'h = .int x.high := rfl
@[simp] theorem Ky.getE8 (h : 8 < x.enc.length) : x.enc[8]'h = .int x.bonus := rfl
@[simp] theorem Ky.getE9 (h : 9 < x.enc.length) : x.enc[9]'h = .int x.lot := rfl
@[simp] theorem Ky.fz : fzps b o k x.enc = x.enc := by simp [Ky.enc, plain_intRow]
end
def Ky.row (l : List Ky) : List PV := l.flatMap Ky.enc
@[simp] theorem Ky.row_len (l : List Ky) : (Ky.row l).length = l.length * 10 := flat_length Ky.enc 10 Ky.len l
@[simp] theorem Ky.row_sub (l : List Ky) (i : Nat) (h : i < l.length) : sub (Ky.row l) (i * 10) 10 = some (l[i]).enc := flat_sub Ky.enc 10 Ky.len l i h
@[simp] theorem Ky.row_get0 (l : List Ky) (i : Nat) (h : i < l.length) : (Ky.row l)[i * 10]? = some (.int l[i].entry) := flat_get Ky.enc 10 Ky.len l i 0 h (by omega)
@[simp] theorem Ky.row_fz (b : Nat) (o : PObj) (k : Nat) (l : List Ky) : fzps b o k (Ky.row l) = Ky.row l := flat_fz Ky.enc (fun b o k x => Ky.fz x b k o) b o k l
abbrev Ky.lst (l : List Ky) : PV := .list false (Ky.row l) l.length
/-- Short lists. -/
structure Ky.Len (x : Ky) : Prop where
  score : x.score.Len
  totals : ∀ r ∈ x.totals, Rw.Len r
  prev : ∀ r ∈ x.prev, Rw.Len r
  lt : x.totals.length ≤ 100000
  lp : x.prev.length ≤ 100000
theorem odd_spec10 (r : Rw) (hr : r.Len) (st : Store) : Rets P F.ties_odd [r.pv] st (.bool (!r.good)) := by
  have c : ∀ st, Rets P F.ratio_Check [r.pv] st (.int (errB (ratOk r.s1 r.L1 r.s2 r.L2) 100)) := ratCheck_spec r.s1 false r.s2 false r.L1 r.L2 hr.1 hr.2
  refine H.ties_odd.pure hmix rfl rfl ?_
  unfold Rw.good
  cases h : ratOk r.s1 r.L1 r.s2 r.L2
  · rw [h] at c
    have c : ∀ st, Rets P F.ratio_Check [r.pv] st (.int 100) := c
    clear h
    repeat' (first 
     | (with_reducible refine Fresh.intro fun b hb => ?_) <;> (try simp -dsimp -implicitDefEqProofs [*] at hb)
     | (with_reducible refine Rets.xcall (c _) ?_)
     | (simp -dsimp -implicitDefEqProofs [*]))
  · rw [h] at c
    have c : ∀ st, Rets P F.ratio_Check [r.pv] st (.int 0) := c
    clear h
    have e : decide ((1024 : Int) < (if r.L1.length < r.L2.length then (r.L2.length : Int) else r.L1.length)) = (!decide (r.L1.length ≤ 1024) || !decide (r.L2.length ≤ 1024)) := by
      by_cases h1 : r.L1.length ≤ 1024 <;> by_cases h2 : r.L2.length ≤ 1024 <;> simp [h1, h2] <;> split <;> omega
    repeat' (first 
     | (with_reducible refine Fresh.intro fun b hb => ?_) <;> (try simp -dsimp -implicitDefEqProofs [*] at hb)
     | (with_reducible refine Rets.xcall (c _) ?_)
     | (simp -dsimp -implicitDefEqProofs [*]))
theorem Rw.good_ok {r : Rw} (h : r.good = true) : r.enc = rC false false r.val ∧ Small r.val ∧ dl r.val.num.natAbs ≤ 1024 ∧ dl r.val.den ≤ 1024 := by
  unfold Rw.good at h
  simp only [Bool.and_eq_true, decide_eq_true_eq] at h
  obtain ⟨h1, h2, h3⟩ := h
  obtain ⟨q, hq⟩ := ratOk_iff.1 h1
  have e : r.val = q := IsRat.val hq
  have e1 := hq.L1
  have e2 := hq.L2
  rw [e]
  refine ⟨hq.cells false false, ⟨hq.n, hq.d⟩, ?_, ?_⟩
  · unfold dl; rw [← e1]; exact h2
  · unfold dl; rw [← e2]; exact h3
theorem greater_spec10 (a b : Rw) (ha : a.good = true) (hb : b.good = true) (st : Store) : Rets P F.ties_greater [a.pv, b.pv] st (.int (cmpR b.val a.val)) := by
  obtain ⟨e1, s1, a1, a2⟩ := Rw.good_ok ha
  obtain ⟨e2, s2, b1, b2⟩ := Rw.good_ok hb
  have c := ratCmp_spec false false false false b.val a.val s2 s1 (Nat.le_trans (by rw [Int.natAbs_mul]; exact dl_mul _ _) (show dl b.val.num.natAbs + dl ((a.val.den : Int)).natAbs ≤ 2048 by have : dl ((a.val.den : Int)).natAbs = dl a.val.den := rfl; omega))
    (Nat.le_trans (by rw [Int.natAbs_mul]; exact dl_mul _ _) (show dl a.val.num.natAbs + dl ((b.val.den : Int)).natAbs ≤ 2048 by have : dl ((b.val.den : Int)).natAbs = dl b.val.den := rfl; omega))
  rw [← e1, ← e2] at c
  obtain ⟨v, hv⟩ : ∃ v, v = cmpR b.val a.val := ⟨_, rfl⟩
  rw [← hv] at c ⊢
  clear e1 e2 s1 s2 a1 a2 b1 b2 hv ha hb
  refine H.ties_greater.pure hmix rfl rfl ?_
  repeat' (first 
   | (with_reducible refine Fresh.intro fun b hb => ?_) <;> (try simp -dsimp -implicitDefEqProofs [*] at hb)
   | (with_reducible refine Rets.xcall (c _) ?_)
   | (simp -dsimp -implicitDefEqProofs [*]))
end Go.Proofs.Ytliglilanpfjhaa
/- Kinds of keys; what a key says of entries. -/
namespace Go.Proofs.Ytliglilanpfjhaa
open Go.Pv
set_option maxRecDepth 100000
set_option maxHeartbeats 8000000
theorem isNaN_spec (a : Int) (st : Store) : Rets P F.cmp_isNaN__int [.int a] st (.bool false) := by
  refine H.cmp_isNaN__int.pure hmix rfl rfl ?_
  repeat' (simp -dsimp -implicitDefEqProofs [*])
theorem cmp_spec (a b : Int) (st : Store) : Rets P F.cmp_Compare__int [.int a, .int b] st (.int (cmpZ a b)) := by
  refine H.cmp_Compare__int.pure hmix rfl rfl ?_
  by_cases h1 : a < b
  · have e : cmpZ a b = -1 := by unfold cmpZ; rw [if_pos h1]
    rw [e]
    repeat' (first 
     | (with_reducible refine Rets.xcall (isNaN_spec _ _) ?_)
     | (simp -dsimp -implicitDefEqProofs [*]))
  · by_cases h2 : b < a
    · have e : cmpZ a b = 1 := by unfold cmpZ; rw [if_neg h1, if_pos h2]
      rw [e]
      repeat' (first 
       | (with_reducible refine Rets.xcall (isNaN_spec _ _) ?_)
       | (simp -dsimp -implicitDefEqProofs [*]))
    · have e : cmpZ a b = 0 := by unfold cmpZ; rw [if_neg h1, if_neg h2]
      rw [e]
      repeat' (first 
       | (with_reducible refine Rets.xcall (isNaN_spec _ _) ?_)
       | (simp -dsimp -implicitDefEqProofs [*]))
abbrev fn0 (f : FuncId) : PV := .func (.func f) [] []
def lstC (f : FuncId) : List PV := [.func (.func F.ties_kinds_2_1) [] [.iptr [fn0 f] 0], .func (.func F.ties_kinds_2_2) [] [.iptr [fn0 f] 0]]
/-- What is kept of a kind. -/
def kC (k : Int) : List PV := if k = 1 then lstC F.ties_kinds_3 else if k = 2 then lstC F.ties_kinds_4 else if k = 3 then [fn0 F.ties_kinds_1, fn0 F.ties_kinds_5] else if k = 4 then [fn0 F.ties_kinds_1, fn0 F.ties_kinds_6] else [fn0 F.ties_kinds_1, fn0 F.ties_kinds_7]
def kOk (k : Int) : Bool := decide (k = 1) || decide (k = 2) || decide (k = 3) || decide (k = 4) || decide (k = 6)
theorem kOk_cases {k : Int} (h : kOk k = true) : k = 1 ∨ k = 2 ∨ k = 3 ∨ k = 4 ∨ k = 6 := by
  simp only [kOk, Bool.or_eq_true, decide_eq_true_eq] at h
  omega
@[simp] theorem lstC_len (f : FuncId) : (lstC f).length = 2 := rfl
@[simp] theorem kC_len (k : Int) : (kC k).length = 2 := by unfold kC; (repeat' split) <;> rfl
@[simp] theorem kC_sub (k : Int) : sub (kC k) 0 2 = some (kC k) := by unfold kC; (repeat' split) <;> rfl
def kKs : List Value := [.int .i64 1, .int .i64 2, .int .i64 3, .int .i64 4, .int .i64 6]
def kVs : List PV := [.agg (kC 1), .agg (kC 2), .agg (kC 3), .agg (kC 4), .agg (kC 6)]
theorem kLook {k : Int} (h : kOk k = true) : ∃ j, kidx (false, [.int]) (.int .i64 k) kKs = some (some j) ∧ kVs[j]? = some (.agg (kC k)) := by
  rcases kOk_cases h with rfl | rfl | rfl | rfl | rfl
  · exact ⟨0, by decide, rfl⟩
  · exact ⟨1, by decide, rfl⟩
  · exact ⟨2, by decide, rfl⟩
  · exact ⟨3, by decide, rfl⟩
  · exact ⟨4, by decide, rfl⟩
theorem kMiss {k : Int} (h : kOk k = false) : kidx (false, [.int]) (.int .i64 k) kKs = some none := by
  simp only [kOk, Bool.or_eq_false_iff, decide_eq_false_iff_not] at h
  obtain ⟨⟨⟨⟨h1, h2⟩, h3⟩, h4⟩, h6⟩ := h
  unfold kKs
  simp [h1, h2, h3, h4, h6, keyCells, kidx]
theorem always_spec (k : Ke) (x : Ky) (st : Store) : Rets P F.ties_kinds_1 [k.pv, x.pv] st (.bool true) := by
  refine H.ties_kinds_1.pure hmix rfl rfl ?_
  repeat' (first 
   | (with_reducible refine Fresh.intro fun b hb => ?_) <;> (try simp -dsimp -implicitDefEqProofs [*] at hb)
   | (simp -dsimp -implicitDefEqProofs [*]))
theorem list_spec (f : FuncId) (st : Store) : Rets P F.ties_kinds_2 [fn0 f] st (.agg (lstC f)) := by
  refine H.ties_kinds_2.view hmix rfl rfl ?_
  repeat' (first 
   | (with_reducible refine Fresh.intro fun b hb => ?_) <;> (try simp -dsimp -implicitDefEqProofs [*] at hb)
   | (with_reducible refine RetView.fz 1 ?_ ?_)
   | (with_reducible refine RetView.same ?_)
   | (simp -dsimp -implicitDefEqProofs [*]))
  rfl
theorem tot_spec (x : Ky) (st : Store) : Rets P F.ties_kinds_3 [x.pv] st (Rw.lst x.totals) := by
  refine H.ties_kinds_3.pure hmix rfl rfl ?_
  repeat' (first 
   | (with_reducible refine Fresh.intro fun b hb => ?_) <;> (try simp -dsimp -implicitDefEqProofs [*] at hb)
   | (simp -dsimp -implicitDefEqProofs [*]))
theorem prev_spec (x : Ky) (st : Store) : Rets P F.ties_kinds_4 [x.pv] st (Rw.lst x.prev) := by
  refine H.ties_kinds_4.pure hmix rfl rfl ?_
  repeat' (first 
   | (with_reducible refine Fresh.intro fun b hb => ?_) <;> (try simp -dsimp -implicitDefEqProofs [*] at hb)
   | (simp -dsimp -implicitDefEqProofs [*]))
theorem high_spec (k : Ke) (a b : Ky) (st : Store) : Rets P F.ties_kinds_5 [k.pv, a.pv, b.pv] st (.int (cmpZ b.high a.high)) := by
  refine H.ties_kinds_5.pure hmix rfl rfl ?_
  repeat' (first 
   | (with_reducible refine Fresh.intro fun b hb => ?_) <;> (try simp -dsimp -implicitDefEqProofs [*] at hb)
   | (with_reducible refine Rets.xcall (cmp_spec _ _ _) ?_)
   | (simp -dsimp -implicitDefEqProofs [*]))
theorem bonus_spec (k : Ke) (a b : Ky) (st : Store) : Rets P F.ties_kinds_6 [k.pv, a.pv, b.pv] st (.int (cmpZ b.bonus a.bonus)) := by
  refine H.ties_kinds_6.pure hmix rfl rfl ?_
  repeat' (first 
   | (with_reducible refine Fresh.intro fun b hb => ?_) <;> (try simp -dsimp -implicitDefEqProofs [*] at hb)
   | (with_reducible refine Rets.xcall (cmp_spec _ _ _) ?_)
   | (simp -dsimp -implicitDefEqProofs [*]))
theorem lot_spec (k : Ke) (a b : Ky) (st : Store) : Rets P F.ties_kinds_7 [k.pv, a.pv, b.pv] st (.int (cmpZ a.lot b.lot)) := by
  refine H.ties_kinds_7.pure hmix rfl rfl ?_
  repeat' (first 
   | (with_reducible refine Fresh.intro fun b hb => ?_) <;> (try simp -dsimp -implicitDefEqProofs [*] at hb)
   | (with_reducible refine Rets.xcall (cmp_spec _ _ _) ?_)
   | (simp -dsimp -implicitDefEqProofs [*]))
theorem in_spec (f : FuncId) (l : List Rw) (k : Ke) (x : Ky) (hf : ∀ st, Rets P f [x.pv] st (Rw.lst l)) (st : Store) :
    Rets P F.ties_kinds_2_1 [k.pv, x.pv, .iptr [fn0 f] 0] st (.bool (decide (0 ≤ k.n) && decide (k.n < l.length))) := by
  refine H.ties_kinds_2_1.pure hmix rfl rfl ?_
  by_cases h : 0 ≤ k.n
  · repeat' (first 
     | (with_reducible refine Fresh.intro fun b hb => ?_) <;> (try simp -dsimp -implicitDefEqProofs [*] at hb)
     | (with_reducible refine Rets.xcall (hf _) ?_)
     | (with_reducible refine DrawLate.intro [] ?_)
     | (simp -dsimp -implicitDefEqProofs [*]))
  · repeat' (first 
     | (with_reducible refine Fresh.intro fun b hb => ?_) <;> (try simp -dsimp -implicitDefEqProofs [*] at hb)
     | (with_reducible refine DrawLate.intro [] ?_)
     | (simp -dsimp -implicitDefEqProofs [*]))
theorem keyAt_spec (f : FuncId) (la lb : List Rw) (k : Ke) (a b : Ky) (n : Nat) (hn : k.n = n) (h1 : n < la.length) (h2 : n < lb.length) (g1 : la[n].good = true) (g2 : lb[n].good = true) (hfa : ∀ st, Rets P f [a.pv] st (Rw.lst la)) (hfb : ∀ st, Rets P f [b.pv] st (Rw.lst lb)) (st : Store) :
    Rets P F.ties_kinds_2_2 [k.pv, a.pv, b.pv, .iptr [fn0 f] 0] st (.int (cmpR lb[n].val la[n].val)) := by
  have c := greater_spec10 la[n] lb[n] g1 g2
  have e1 := Rw.row_sub la n h1
  have e2 := Rw.row_sub lb n h2
  obtain ⟨v, hv⟩ : ∃ v, v = cmpR lb[n].val la[n].val := ⟨_, rfl⟩
  rw [← hv] at c ⊢
  obtain ⟨A, hA⟩ : ∃ v, v = la[n] := ⟨_, rfl⟩
  obtain ⟨B, hB⟩ : ∃ v, v = lb[n] := ⟨_, rfl⟩
  rw [← hA] at c e1
  rw [← hB] at c e2
  clear hA hB g1 g2 hv
  refine H.ties_kinds_2_2.pure hmix rfl rfl ?_
  repeat' (first 
   | (with_reducible refine Fresh.intro fun b hb => ?_) <;> (try simp -dsimp -implicitDefEqProofs [*] at hb)
   | (with_reducible refine Rets.xcall (hfa _) ?_)
   | (with_reducible refine Rets.xcall (hfb _) ?_)
   | (with_reducible refine Rets.xcall (c _) ?_)
   | (with_reducible refine DrawLate.intro [] ?_)
   | (simp -dsimp -implicitDefEqProofs [-Rw.row_sub, *]))
end Go.Proofs.Ytliglilanpfjhaa
/- Keys: what each says; the order that they make. -/
namespace Go.Proofs.Ytliglilanpfjhaa
open Go.Pv
set_option maxRecDepth 100000
set_option maxHeartbeats 8000000
/-- Has an entry what is compared? -/
def hasK (k : Ke) (x : Ky) : Bool := if k.kind = 1 then decide (0 ≤ k.n) && decide (k.n < x.totals.length) else if k.kind = 2 then decide (0 ≤ k.n) && decide (k.n < x.prev.length) else true
/-- What is compared: the lesser is first. -/
def keyV (k : Ke) (x : Ky) : Rat := if k.kind = 1 then -(x.totals.getD k.n.toNat default).val else if k.kind = 2 then -(x.prev.getD k.n.toNat default).val else if k.kind = 3 then ((-x.high : Int) : Rat) else if k.kind = 4 then ((-x.bonus : Int) : Rat) else ((x.lot : Int) : Rat)
/-- All numbers are right. -/
def Ky.good (x : Ky) : Bool := x.score.good && (x.totals.all Rw.good && x.prev.all Rw.good)
theorem cmpR_negneg (a b : Rat) : cmpR (-a) (-b) = cmpR b a := by
  unfold cmpR
  have h1 : (-a < -b) ↔ b < a := Rat.neg_lt_neg_iff
  have h2 : (-b < -a) ↔ a < b := Rat.neg_lt_neg_iff
  simp only [h1, h2]
theorem cmpR_int (a b : Int) : cmpR (a : Rat) (b : Rat) = cmpZ a b := by
  unfold cmpR cmpZ
  simp only [Rat.intCast_lt_intCast]
theorem cmpZ_negneg (a b : Int) : cmpZ (-a) (-b) = cmpZ b a := by unfold cmpZ; repeat' split <;> omega
theorem has_spec (k : Ke) (x : Ky) (hk : kOk k.kind = true) (st : Store) : Rets P F.ties_plain_2 [x.pv, .iptr (kC k.kind) 0, .iptr k.enc 0] st (.bool (hasK k x)) := by
  have ci := fun f l hf => in_spec f l k x hf
  have ca := always_spec k x
  rcases kOk_cases hk with h | h | h | h | h
  · have c := ci _ _ (tot_spec x)
    have e : hasK k x = (decide (0 ≤ k.n) && decide (k.n < x.totals.length)) := by unfold hasK; rw [if_pos h]
    rw [e, h]
    refine H.ties_plain_2.pure hmix rfl rfl ?_
    clear ci ca
    repeat' (first 
     | (with_reducible refine Fresh.intro fun b hb => ?_) <;> (try simp -dsimp -implicitDefEqProofs [*] at hb)
     | (with_reducible refine Rets.xcall (c _) ?_)
     | (simp -dsimp -implicitDefEqProofs [kC, lstC, *]))
  · have c := ci _ _ (prev_spec x)
    have e : hasK k x = (decide (0 ≤ k.n) && decide (k.n < x.prev.length)) := by unfold hasK; rw [if_neg (by omega), if_pos h]
    rw [e, h]
    refine H.ties_plain_2.pure hmix rfl rfl ?_
    clear ci ca
    repeat' (first 
     | (with_reducible refine Fresh.intro fun b hb => ?_) <;> (try simp -dsimp -implicitDefEqProofs [*] at hb)
     | (with_reducible refine Rets.xcall (c _) ?_)
     | (simp -dsimp -implicitDefEqProofs [kC, lstC, *]))
  all_goals
    have e : hasK k x = true := by unfold hasK; rw [if_neg (by omega), if_neg (by omega)]
    rw [e, h]
    refine H.ties_plain_2.pure hmix rfl rfl ?_
    clear ci
    repeat' (first 
     | (with_reducible refine Fresh.intro fun b hb => ?_) <;> (try simp -dsimp -implicitDefEqProofs [*] at hb)
     | (with_reducible refine Rets.xcall (ca _) ?_)
     | (simp -dsimp -implicitDefEqProofs [kC, lstC, *]))
theorem all_get {l : List Rw} (h : l.all Rw.good = true) (n : Nat) (hn : n < l.length) : l[n].good = true := List.all_eq_true.1 h _ (List.getElem_mem hn)
theorem getD_val {l : List Rw} {n : Nat} (hn : n < l.length) : l.getD n default = l[n] := by simp [hn]
theorem first_spec (k : Ke) (a b : Ky) (hk : kOk k.kind = true) (ha : hasK k a = true) (hb : hasK k b = true) (ga : a.good = true) (gb : b.good = true) (st : Store) :
    Rets P F.ties_plain_3 [a.pv, b.pv, .iptr (kC k.kind) 0, .iptr k.enc 0] st (.int (cmpR (keyV k a) (keyV k b))) := by
  simp only [Ky.good, Bool.and_eq_true] at ga gb
  rcases kOk_cases hk with h | h | h | h | h
  · unfold hasK at ha hb
    rw [if_pos h] at ha hb
    simp only [Bool.and_eq_true, decide_eq_true_eq] at ha hb
    obtain ⟨n, hn⟩ : ∃ n : Nat, k.n = n := ⟨k.n.toNat, by omega⟩
    have h1 : n < a.totals.length := by omega
    have h2 : n < b.totals.length := by omega
    have c := keyAt_spec _ _ _ k a b n hn h1 h2 (all_get ga.2.1 n h1) (all_get gb.2.1 n h2) (tot_spec a) (tot_spec b)
    have e : cmpR (keyV k a) (keyV k b) = cmpR b.totals[n].val a.totals[n].val := by
      unfold keyV
      rw [if_pos h, if_pos h, cmpR_negneg, hn, show ((n : Int)).toNat = n from rfl, getD_val h1, getD_val h2]
    rw [e, h]
    obtain ⟨v, hv⟩ : ∃ v, v = cmpR b.totals[n].val a.totals[n].val := ⟨_, rfl⟩
    rw [← hv] at c ⊢
    clear hv e ga gb ha hb h1 h2 hn
    refine H.ties_plain_3.pure hmix rfl rfl ?_
    repeat' (first 
     | (with_reducible refine Fresh.intro fun b hb => ?_) <;> (try simp -dsimp -implicitDefEqProofs [*] at hb)
     | (with_reducible refine Rets.xcall (c _) ?_)
     | (simp -dsimp -implicitDefEqProofs [kC, lstC, *]))
  · unfold hasK at ha hb
    rw [if_neg (by omega), if_pos h] at ha hb
    simp only [Bool.and_eq_true, decide_eq_true_eq] at ha hb
    obtain ⟨n, hn⟩ : ∃ n : Nat, k.n = n := ⟨k.n.toNat, by omega⟩
    have h1 : n < a.prev.length := by omega
    have h2 : n < b.prev.length := by omega
    have c := keyAt_spec _ _ _ k a b n hn h1 h2 (all_get ga.2.2 n h1) (all_get gb.2.2 n h2) (prev_spec a) (prev_spec b)
    have e : cmpR (keyV k a) (keyV k b) = cmpR b.prev[n].val a.prev[n].val := by
      unfold keyV
      rw [if_neg (by omega), if_pos h, if_neg (by omega), if_pos h, cmpR_negneg, hn, show ((n : Int)).toNat = n from rfl, getD_val h1, getD_val h2]
    rw [e, h]
    obtain ⟨v, hv⟩ : ∃ v, v = cmpR b.prev[n].val a.prev[n].val := ⟨_, rfl⟩
    rw [← hv] at c ⊢
    clear hv e ga gb ha hb h1 h2 hn
    refine H.ties_plain_3.pure hmix rfl rfl ?_
    repeat' (first 
     | (with_reducible refine Fresh.intro fun b hb => ?_) <;> (try simp -dsimp -implicitDefEqProofs [*] at hb)
     | (with_reducible refine Rets.xcall (c _) ?_)
     | (simp -dsimp -implicitDefEqProofs [kC, lstC, *]))
  · have e : cmpR (keyV k a) (keyV k b) = cmpZ b.high a.high := by
      unfold keyV
      rw [if_neg (by omega), if_neg (by omega), if_pos h, if_neg (by omega), if_neg (by omega), if_pos h, cmpR_int, cmpZ_negneg]
    rw [e, h]
    clear ga gb ha hb
    refine H.ties_plain_3.pure hmix rfl rfl ?_
    repeat' (first 
     | (with_reducible refine Fresh.intro fun b hb => ?_) <;> (try simp -dsimp -implicitDefEqProofs [*] at hb)
     | (with_reducible refine Rets.xcall (high_spec _ _ _ _) ?_)
     | (simp -dsimp -implicitDefEqProofs [kC, lstC, *]))
  · have e : cmpR (keyV k a) (keyV k b) = cmpZ b.bonus a.bonus := by
      unfold keyV
      rw [if_neg (by omega), if_neg (by omega), if_neg (by omega), if_pos h, if_neg (by omega), if_neg (by omega), if_neg (by omega), if_pos h, cmpR_int, cmpZ_negneg]
    rw [e, h]
    clear ga gb ha hb
    refine H.ties_plain_3.pure hmix rfl rfl ?_
    repeat' (first 
     | (with_reducible refine Fresh.intro fun b hb => ?_) <;> (try simp -dsimp -implicitDefEqProofs [*] at hb)
     | (with_reducible refine Rets.xcall (bonus_spec _ _ _ _) ?_)
     | (simp -dsimp -implicitDefEqProofs [kC, lstC, *]))
  · have e : cmpR (keyV k a) (keyV k b) = cmpZ a.lot b.lot := by
      unfold keyV
      rw [if_neg (by omega), if_neg (by omega), if_neg (by omega), if_neg (by omega), if_neg (by omega), if_neg (by omega), if_neg (by omega), if_neg (by omega), cmpR_int]
    rw [e, h]
    clear ga gb ha hb
    refine H.ties_plain_3.pure hmix rfl rfl ?_
    repeat' (first 
     | (with_reducible refine Fresh.intro fun b hb => ?_) <;> (try simp -dsimp -implicitDefEqProofs [*] at hb)
     | (with_reducible refine Rets.xcall (lot_spec _ _ _ _) ?_)
     | (simp -dsimp -implicitDefEqProofs [kC, lstC, *]))
theorem score_spec (a b : Ky) (ga : a.good = true) (gb : b.good = true) (st : Store) : Rets P F.ties_plain_1 [a.pv, b.pv] st (.int (cmpR (-a.score.val) (-b.score.val))) := by
  simp only [Ky.good, Bool.and_eq_true] at ga gb
  have c := greater_spec10 a.score b.score ga.1 gb.1
  rw [cmpR_negneg]
  obtain ⟨v, hv⟩ : ∃ v, v = cmpR b.score.val a.score.val := ⟨_, rfl⟩
  rw [← hv] at c ⊢
  clear hv ga gb
  refine H.ties_plain_1.pure hmix rfl rfl ?_
  repeat' (first 
   | (with_reducible refine Fresh.intro fun b hb => ?_) <;> (try simp -dsimp -implicitDefEqProofs [*] at hb)
   | (with_reducible refine Rets.xcall (c _) ?_)
   | (simp -dsimp -implicitDefEqProofs [*]))
theorem kinds_spec (st : Store) : Rets P F.ties_kinds [] st (.imap kKs kVs) := by
  have c3 := list_spec F.ties_kinds_3
  have c4 := list_spec F.ties_kinds_4
  have e1 : kC 1 = lstC F.ties_kinds_3 := rfl
  have e2 : kC 2 = lstC F.ties_kinds_4 := rfl
  have e3 : kC 3 = [fn0 F.ties_kinds_1, fn0 F.ties_kinds_5] := rfl
  have e4 : kC 4 = [fn0 F.ties_kinds_1, fn0 F.ties_kinds_6] := rfl
  have e6 : kC 6 = [fn0 F.ties_kinds_1, fn0 F.ties_kinds_7] := rfl
  refine H.ties_kinds.view hmix rfl rfl ?_
  unfold kKs kVs
  rw [e1, e2, e3, e4, e6]
  obtain ⟨A, hA⟩ : ∃ A, A = lstC F.ties_kinds_3 := ⟨_, rfl⟩
  obtain ⟨B, hB⟩ : ∃ A, A = lstC F.ties_kinds_4 := ⟨_, rfl⟩
  rw [← hA] at c3 ⊢
  rw [← hB] at c4 ⊢
  have fA : ∀ b o k, fzps b o k A = A := fun b o k => by rw [hA]; simp [lstC]
  have fB : ∀ b o k, fzps b o k B = B := fun b o k => by rw [hB]; simp [lstC]
  clear hA hB e1 e2 e3 e4 e6
  repeat' (first 
   | (with_reducible refine Fresh.intro fun b hb => ?_) <;> (try simp -dsimp -implicitDefEqProofs [*] at hb)
   | (with_reducible refine Rets.xcall (c3 _) ?_)
   | (with_reducible refine Rets.xcall (c4 _) ?_)
   | (with_reducible refine RetView.fz 1 ?_ ?_)
   | (with_reducible refine RetView.same ?_)
   | (simp -dsimp -implicitDefEqProofs [kidx, keyCells, *]))
end Go.Proofs.Ytliglilanpfjhaa
