/- Reviews: small functions, Check. -/
import Derived.Test.YtbjfmedpaohpnaaCode
import Derived.Test.YtbjfmedpaohpnaaLRa
namespace Go.Proofs.Ytbjfmedpaohpnaa
open Go.Pv
set_option maxRecDepth 100000
structure Review where
  no : Int
  finding : Int
  opened : Int
  closed : Int
  verdict : Int
  deriving DecidableEq, Inhabited
def Review.enc (x : Review) : List PV := [.int x.no, .int x.finding, .int x.opened, .int x.closed, .int x.verdict]
abbrev Review.pv (x : Review) : PV := .agg x.enc
@[simp] theorem Review.len (x : Review) : x.enc.length = 5 := rfl
@[simp] theorem Review.subAll (x : Review) : sub x.enc 0 5 = some x.enc := rfl
@[simp] theorem Review.get0 (x : Review) : x.enc[0]? = some (.int x.no) := rfl
@[simp] theorem Review.getE0 (x : Review) (h : 0 < x.enc.length) : x.enc[0]'h = .int x.no := rfl
@[simp] theorem Review.set0 (x : Review) (v : Int) : List.set x.enc 0 (.int v) = (Review.mk v x.finding x.opened x.closed x.verdict).enc := rfl
@[simp] theorem Review.get1 (x : Review) : x.enc[1]? = some (.int x.finding) := rfl
@[simp] theorem Review.getE1 (x : Review) (h : 1 < x.enc.length) : x.enc[1]'h = .int x.finding := rfl
@[simp] theorem Review.set1 (x : Review) (v : Int) : List.set x.enc 1 (.int v) = (Review.mk x.no v x.opened x.closed x.verdict).enc := rfl
@[simp] theorem Review.get2 (x : Review) : x.enc[2]? = some (.int x.opened) := rfl
@[simp] theorem Review.getE2 (x : Review) (h : 2 < x.enc.length) : x.enc[2]'h = .int x.opened := rfl
@[simp] theorem Review.set2 (x : Review) (v : Int) : List.set x.enc 2 (.int v) = (Review.mk x.no x.finding v x.closed x.verdict).enc := rfl
@[simp] theorem Review.get3 (x : Review) : x.enc[3]? = some (.int x.closed) := rfl
@[simp] theorem Review.getE3 (x : Review) (h : 3 < x.enc.length) : x.enc[3]'h = .int x.closed := rfl
@[simp] theorem Review.set3 (x : Review) (v : Int) : List.set x.enc 3 (.int v) = (Review.mk x.no x.finding x.opened v x.verdict).enc := rfl
@[simp] theorem Review.get4 (x : Review) : x.enc[4]? = some (.int x.verdict) := rfl
@[simp] theorem Review.getE4 (x : Review) (h : 4 < x.enc.length) : x.enc[4]'h = .int x.verdict := rfl
@[simp] theorem Review.set4 (x : Review) (v : Int) : List.set x.enc 4 (.int v) = (Review.mk x.no x.finding x.opened x.closed v).enc := rfl
@[simp] theorem Review.fz (b : Nat) (o : PObj) (k : Nat) (x : Review) : fzps b o k x.enc = x.enc := rfl
theorem Review.fold (v0 v1 v2 v3 v4 : Int) : [PV.int v0, PV.int v1, PV.int v2, PV.int v3, PV.int v4] = (Review.mk v0 v1 v2 v3 v4).enc := rfl
@[simp] theorem Review.fill (x y : Review) : setCells x.enc 0 y.enc = y.enc := rfl
@[simp] theorem Review.eq (x y : Review) : eqCells [.int, .int, .int, .int, .int] x.enc y.enc = some (decide (x = y)) := by
  simp [Review.enc]
  cases x; cases y; simp [Review.mk.injEq]
@[simp] theorem Review.key (x : Review) : PV.vals? x.enc = some [.int .i64 x.no, .int .i64 x.finding, .int .i64 x.opened, .int .i64 x.closed, .int .i64 x.verdict] := rfl
def Review.row (l : List Review) : List PV := l.flatMap Review.enc
abbrev Review.lst (t : Bool) (l : List Review) : PV := .list t (Review.row l) l.length
@[simp] theorem Review.row_len (l : List Review) : (Review.row l).length = l.length * 5 := flat_length Review.enc 5 Review.len l
@[simp] theorem Review.row_nil : Review.row [] = [] := rfl
@[simp] theorem Review.row_cons (x : Review) (l : List Review) : Review.row (x :: l) = x.enc ++ Review.row l := rfl
theorem Review.row_append (l m : List Review) : Review.row (l ++ m) = Review.row l ++ Review.row m := by simp [Review.row]
@[simp] theorem Review.row_eq_nil (l : List Review) : Review.row l = [] ↔ l = [] := by
  constructor
  · intro h
    have := congrArg List.length h
    rw [Review.row_len] at this
    cases l with
    | nil => rfl
    | cons => simp at this
  · rintro rfl; rfl
@[simp] theorem Review.row_sub (l : List Review) (i : Nat) (h : i < l.length) : sub (Review.row l) (i * 5) 5 = some (l[i]).enc := flat_sub Review.enc 5 Review.len l i h
theorem Review.row_drop (l : List Review) (i : Nat) : (Review.row l).drop (i * 5) = Review.row (l.drop i) := flat_drop Review.enc 5 Review.len l i
theorem Review.row_take (l : List Review) (i : Nat) : (Review.row l).take (i * 5) = Review.row (l.take i) := flat_take Review.enc 5 Review.len l i
@[simp] theorem Review.row_getE0 (l : List Review) (i : Nat) (h : i * 5 < (Review.row l).length) : (Review.row l)[i * 5]'h = .int (l[i]'(by rw [Review.row_len] at h; omega)).no := by
  have hl : i < l.length := by rw [Review.row_len] at h; omega
  have := flat_get Review.enc 5 Review.len l i 0 hl (by omega)
  have h2 : (Review.row l)[i * 5]? = some (.int l[i].no) := this
  rw [List.getElem?_eq_getElem h] at h2
  exact Option.some.inj h2
@[simp] theorem Review.row_get0 (l : List Review) (i : Nat) (h : i < l.length) : (Review.row l)[i * 5]? = some (.int l[i].no) := flat_get Review.enc 5 Review.len l i 0 h (by omega)
@[simp] theorem Review.row_getE1 (l : List Review) (i : Nat) (h : i * 5 + 1 < (Review.row l).length) : (Review.row l)[i * 5 + 1]'h = .int (l[i]'(by rw [Review.row_len] at h; omega)).finding := by
  have hl : i < l.length := by rw [Review.row_len] at h; omega
  have := flat_get Review.enc 5 Review.len l i 1 hl (by omega)
  have h2 : (Review.row l)[i * 5 + 1]? = some (.int l[i].finding) := this
  rw [List.getElem?_eq_getElem h] at h2
  exact Option.some.inj h2
@[simp] theorem Review.row_get1 (l : List Review) (i : Nat) (h : i < l.length) : (Review.row l)[i * 5 + 1]? = some (.int l[i].finding) := flat_get Review.enc 5 Review.len l i 1 h (by omega)
@[simp] theorem Review.row_getE2 (l : List Review) (i : Nat) (h : i * 5 + 2 < (Review.row l).length) : (Review.row l)[i * 5 + 2]'h = .int (l[i]'(by rw [Review.row_len] at h; omega)).opened := by
  have hl : i < l.length := by rw [Review.row_len] at h; omega
  have := flat_get Review.enc 5 Review.len l i 2 hl (by omega)
  have h2 : (Review.row l)[i * 5 + 2]? = some (.int l[i].opened) := this
  rw [List.getElem?_eq_getElem h] at h2
  exact Option.some.inj h2
@[simp] theorem Review.row_get2 (l : List Review) (i : Nat) (h : i < l.length) : (Review.row l)[i * 5 + 2]? = some (.int l[i].opened) := flat_get Review.enc 5 Review.len l i 2 h (by omega)
@[simp] theorem Review.row_getE3 (l : List Review) (i : Nat) (h : i * 5 + 3 < (Review.row l).length) : (Review.row l)[i * 5 + 3]'h = .int (l[i]'(by rw [Review.row_len] at h; omega)).closed := by
  have hl : i < l.length := by rw [Review.row_len] at h; omega
  have := flat_get Review.enc 5 Review.len l i 3 hl (by omega)
  have h2 : (Review.row l)[i * 5 + 3]? = some (.int l[i].closed) := this
  rw [List.getElem?_eq_getElem h] at h2
  exact Option.some.inj h2
@[simp] theorem Review.row_get3 (l : List Review) (i : Nat) (h : i < l.length) : (Review.row l)[i * 5 + 3]? = some (.int l[i].closed) := flat_get Review.enc 5 Review.len l i 3 h (by omega)
@[simp] theorem Review.row_getE4 (l : List Review) (i : Nat) (h : i * 5 + 4 < (Review.row l).length) : (Review.row l)[i * 5 + 4]'h = .int (l[i]'(by rw [Review.row_len] at h; omega)).verdict := by
  have hl : i < l.length := by rw [Review.row_len] at h; omega
  have := flat_get Review.enc 5 Review.len l i 4 hl (by omega)
  have h2 : (Review.row l)[i * 5 + 4]? = some (.int l[i].verdict) := this
  rw [List.getElem?_eq_getElem h] at h2
  exact Option.some.inj h2
@[simp] theorem Review.row_get4 (l : List Review) (i : Nat) (h : i < l.length) : (Review.row l)[i * 5 + 4]? = some (.int l[i].verdict) := flat_get Review.enc 5 Review.len l i 4 h (by omega)
theorem Review.row_set (l : List Review) (i : Nat) (x : Review) (h : i < l.length) : setCells (Review.row l) (i * 5) x.enc = Review.row (l.set i x) := flat_set Review.enc 5 Review.len l i x h
theorem Review.row_fz (b : Nat) (o : PObj) (k : Nat) (l : List Review) : fzps b o k (Review.row l) = Review.row l := flat_fz Review.enc Review.fz b o k l
attribute [simp] Review.row_fz


def wi (n l : Int) : Bool := decide (0 ≤ n) && decide (n < l)
theorem within_spec (n l : Int) (st : Store) : Rets P F.reviews_within [.int n, .int l] st (.bool (wi n l)) := by
  refine H.reviews_within.pure hmix rfl rfl ?_
  simp -dsimp -implicitDefEqProofs
  simp [wi]; grind
theorem take_all {bs : List Bool} {i : Nat} (h : i < bs.length) (hb : (bs.take i).all id = true) : (bs.take (i + 1)).all id = bs[i] := by
  rw [List.take_succ_eq_append_getElem h, List.all_append, hb]; simp
def idxB (bs : List Bool) : Int := if bs.all id then -1 else (bs.findIdx (!·) : Nat)
theorem idxB_iff (bs : List Bool) : decide (0 ≤ idxB bs) = !bs.all id := by
  unfold idxB
  split <;> rename_i h
  · rw [h]; rfl
  · have : bs.all id = false := by simpa using h
    rw [this]; simp
theorem index_spec (t : Bool) (bs : List Bool) (hl : bs.length ≤ 1000) (st : Store) : Rets P F.slices_Index__Lbool_bool [.list t (bs.map PV.bool) bs.length, .bool false] st (.int (idxB bs)) := by
  refine H.slices_Index__Lbool_bool.pure hmix rfl rfl ?_
  repeat' (first
    | (with_reducible refine Fresh.intro fun b hb => ?_) <;> (try simp -dsimp -implicitDefEqProofs [*] at hb)
    | (with_reducible refine Lit.imm ?_)
    | ((with_reducible refine Grow.intro ?_ fun b cap hb hc1 hc2 => ?_); omega) <;> (try simp -dsimp -implicitDefEqProofs [*] at hb)
    | (with_reducible refine RetView.nil2 ?_)
    | (with_reducible refine RetView.nil1 ?_)
    | (with_reducible refine RetView.loose2 (t := true) ?_)
    | (with_reducible refine RetView.loose1 (t := true) ?_)
    | (with_reducible refine RetView.fz 1 ?_ ?_)
    | (with_reducible refine RetView.same ?_)
    | (with_reducible refine DrawLate.intro [] ?_)
    | (with_reducible refine Cls_and ?_ ?_)
    | (with_reducible exact Cls.self _ _)
    | (with_reducible refine Cls_same ?_)
    | (with_reducible refine Cls_in ?_ ?_)
    | (with_reducible refine Cls_fresh ?_ ?_)
    | (with_reducible refine And.intro (fun h => ?_) (fun h => ?_)) <;> (try (exfalso; omega))
    | (with_reducible refine And.intro (fun h => ?_) ?_) <;> (try (exfalso; omega))
    | ((with_reducible refine and_keep ?_ fun hk => ?_); omega)
    | (simp -dsimp -implicitDefEqProofs [*]))
  refine xloop_for (fun i => [(0, .list t (bs.map PV.bool) bs.length), (1, .bool false), (7, .int bs.length), (8, .int (i : Nat))]) (fun _ => st) (fun i => i ≤ bs.length ∧ (bs.take i).all id = true) (fun i => bs.length - i) 0 ?_ ?_ ?_ ?_
  · simp
  · simp
  · simp
  rintro i ⟨hi, hb⟩
  have hw := wrap_succ (n := i) (by omega)
  repeat' (first
    | (with_reducible refine Fresh.intro fun b hb => ?_) <;> (try simp -dsimp -implicitDefEqProofs [*] at hb)
    | (with_reducible refine Lit.imm ?_)
    | ((with_reducible refine Grow.intro ?_ fun b cap hb hc1 hc2 => ?_); omega) <;> (try simp -dsimp -implicitDefEqProofs [*] at hb)
    | (with_reducible refine RetView.nil2 ?_)
    | (with_reducible refine RetView.nil1 ?_)
    | (with_reducible refine RetView.loose2 (t := true) ?_)
    | (with_reducible refine RetView.loose1 (t := true) ?_)
    | (with_reducible refine RetView.fz 1 ?_ ?_)
    | (with_reducible refine RetView.same ?_)
    | (with_reducible refine DrawLate.intro [] ?_)
    | (with_reducible refine Cls_and ?_ ?_)
    | (with_reducible exact Cls.self _ _)
    | (with_reducible refine Cls_same ?_)
    | (with_reducible refine Cls_in ?_ ?_)
    | (with_reducible refine Cls_fresh ?_ ?_)
    | (with_reducible refine And.intro (fun h => ?_) (fun h => ?_)) <;> (try (exfalso; omega))
    | (with_reducible refine And.intro (fun h => ?_) ?_) <;> (try (exfalso; omega))
    | ((with_reducible refine and_keep ?_ fun hk => ?_); omega)
    | (simp -dsimp -implicitDefEqProofs [*]))
  · refine Next.intro (i + 1) ⟨by omega, by rw [take_all hk hb, h]⟩ (by omega) (by simp) (by simp)
  · have h4 : bs.all id = false := by
      rw [List.all_eq_false]
      exact ⟨_, List.getElem_mem hk, by simp [h]⟩
    have : bs.findIdx (!·) = i := by
      rw [List.findIdx_eq hk]
      refine ⟨by simp [h], fun k hk => ?_⟩
      have := List.all_eq_true.1 hb bs[k] (by rw [List.mem_take_iff_getElem]; exact ⟨k, by omega, rfl⟩)
      simpa using this
    rw [idxB, if_neg (by rw [h4]; simp), this]
  · rw [List.take_of_length_le h] at hb
    rw [idxB, if_pos hb]
theorem contains_spec (t : Bool) (bs : List Bool) (hl : bs.length ≤ 1000) (st : Store) : Rets P F.slices_Contains__Lbool_bool [.list t (bs.map PV.bool) bs.length, .bool false] st (.bool (!bs.all id)) := by
  refine H.slices_Contains__Lbool_bool.pure hmix rfl rfl ?_
  have h := idxB_iff bs
  generalize bs.all id = c at *
  repeat' (first
    | (with_reducible refine Fresh.intro fun b hb => ?_) <;> (try simp -dsimp -implicitDefEqProofs [*] at hb)
    | (with_reducible refine Rets.xcall (index_spec t bs hl _) ?_)
    | (with_reducible refine Rets.xsoft (index_spec t bs hl _) ?_)
    | (with_reducible refine xlateCall_of (fun _ => index_spec t bs hl _) ?_)
    | (with_reducible refine Lit.imm ?_)
    | ((with_reducible refine Grow.intro ?_ fun b cap hb hc1 hc2 => ?_); omega) <;> (try simp -dsimp -implicitDefEqProofs [*] at hb)
    | (with_reducible refine RetView.nil2 ?_)
    | (with_reducible refine RetView.nil1 ?_)
    | (with_reducible refine RetView.loose2 (t := true) ?_)
    | (with_reducible refine RetView.loose1 (t := true) ?_)
    | (with_reducible refine RetView.fz 1 ?_ ?_)
    | (with_reducible refine RetView.same ?_)
    | (with_reducible refine DrawLate.intro [] ?_)
    | (with_reducible refine Cls_and ?_ ?_)
    | (with_reducible exact Cls.self _ _)
    | (with_reducible refine Cls_same ?_)
    | (with_reducible refine Cls_in ?_ ?_)
    | (with_reducible refine Cls_fresh ?_ ?_)
    | (with_reducible refine And.intro (fun h => ?_) (fun h => ?_)) <;> (try (exfalso; omega))
    | (with_reducible refine And.intro (fun h => ?_) ?_) <;> (try (exfalso; omega))
    | ((with_reducible refine and_keep ?_ fun hk => ?_); omega)
    | (simp -dsimp -implicitDefEqProofs [*]))
theorem all_spec (t : Bool) (bs : List Bool) (hl : bs.length ≤ 1000) (st : Store) : Rets P F.reviews_all [.list t (bs.map PV.bool) bs.length] st (.bool (bs.all id)) := by
  refine H.reviews_all.pure hmix rfl rfl ?_
  repeat' (first
    | (with_reducible refine Fresh.intro fun b hb => ?_) <;> (try simp -dsimp -implicitDefEqProofs [*] at hb)
    | (with_reducible refine Rets.xcall (contains_spec t bs hl _) ?_)
    | (with_reducible refine Rets.xsoft (contains_spec t bs hl _) ?_)
    | (with_reducible refine xlateCall_of (fun _ => contains_spec t bs hl _) ?_)
    | (with_reducible refine Lit.imm ?_)
    | ((with_reducible refine Grow.intro ?_ fun b cap hb hc1 hc2 => ?_); omega) <;> (try simp -dsimp -implicitDefEqProofs [*] at hb)
    | (with_reducible refine RetView.nil2 ?_)
    | (with_reducible refine RetView.nil1 ?_)
    | (with_reducible refine RetView.loose2 (t := true) ?_)
    | (with_reducible refine RetView.loose1 (t := true) ?_)
    | (with_reducible refine RetView.fz 1 ?_ ?_)
    | (with_reducible refine RetView.same ?_)
    | (with_reducible refine DrawLate.intro [] ?_)
    | (with_reducible refine Cls_and ?_ ?_)
    | (with_reducible exact Cls.self _ _)
    | (with_reducible refine Cls_same ?_)
    | (with_reducible refine Cls_in ?_ ?_)
    | (with_reducible refine Cls_fresh ?_ ?_)
    | (with_reducible refine And.intro (fun h => ?_) (fun h => ?_)) <;> (try (exfalso; omega))
    | (with_reducible refine And.intro (fun h => ?_) ?_) <;> (try (exfalso; omega))
    | ((with_reducible refine and_keep ?_ fun hk => ?_); omega)
    | (simp -dsimp -implicitDefEqProofs [*]))
theorem all2 (t : Bool) (a b : Bool) (st : Store) : Rets P F.reviews_all [.list t [.bool a, .bool b] 2] st (.bool (a && b)) := by
  have := all_spec t [a, b] (by simp) st
  simpa using this
theorem all3 (t : Bool) (a b c : Bool) (st : Store) : Rets P F.reviews_all [.list t [.bool a, .bool b, .bool c] 3] st (.bool (a && (b && c))) := by
  have := all_spec t [a, b, c] (by simp) st
  simpa using this
theorem all4 (t : Bool) (a b c d : Bool) (st : Store) : Rets P F.reviews_all [.list t [.bool a, .bool b, .bool c, .bool d] 4] st (.bool (a && (b && (c && d)))) := by
  have := all_spec t [a, b, c, d] (by simp) st
  simpa using this
def validE (e : Review) : Bool :=
  wi e.no 1048577 && wi e.finding 1048577 && wi e.opened 2097152 && if e.closed = -1 then decide (e.verdict = 0) else decide (e.opened ≤ e.closed) && wi e.closed 2097152 && (decide (e.verdict = 1) || decide (e.verdict = 2))
/-- A verdict that an int can be. -/
def fit (e : Review) : Prop := I64 e.verdict
theorem verdict_iff {n : Int} (h : I64 n) : wi (IntKind.i64.wrap (n - 1)) 2 = (decide (n = 1) || decide (n = 2)) := by
  unfold I64 at h
  by_cases h1 : n = -9223372036854775808
  · subst h1; decide
  · rw [wrap_in (by omega) (by omega)]
    unfold wi
    grind
theorem valid_spec (e : Review) (he : fit e) (st : Store) : Rets P F.reviews_valid [e.pv] st (.bool (validE e)) := by
  refine H.reviews_valid.pure hmix rfl rfl ?_
  have hv := verdict_iff he
  repeat' (first
    | (with_reducible refine Fresh.intro fun b hb => ?_) <;> (try simp -dsimp -implicitDefEqProofs [*] at hb)
    | (with_reducible refine Rets.xcall (within_spec ..) ?_)
    | (with_reducible refine Rets.xsoft (within_spec ..) ?_)
    | (with_reducible refine xlateCall_of (fun _ => within_spec ..) ?_)
    | (with_reducible refine Rets.xcall (all2 ..) ?_)
    | (with_reducible refine Rets.xsoft (all2 ..) ?_)
    | (with_reducible refine xlateCall_of (fun _ => all2 ..) ?_)
    | (with_reducible refine Rets.xcall (all3 ..) ?_)
    | (with_reducible refine Rets.xsoft (all3 ..) ?_)
    | (with_reducible refine xlateCall_of (fun _ => all3 ..) ?_)
    | (with_reducible refine Rets.xcall (all4 ..) ?_)
    | (with_reducible refine Rets.xsoft (all4 ..) ?_)
    | (with_reducible refine xlateCall_of (fun _ => all4 ..) ?_)
    | (with_reducible refine Lit.imm ?_)
    | ((with_reducible refine Grow.intro ?_ fun b cap hb hc1 hc2 => ?_); omega) <;> (try simp -dsimp -implicitDefEqProofs [*] at hb)
    | (with_reducible refine RetView.nil2 ?_)
    | (with_reducible refine RetView.nil1 ?_)
    | (with_reducible refine RetView.loose2 (t := true) ?_)
    | (with_reducible refine RetView.loose1 (t := true) ?_)
    | (with_reducible refine RetView.fz 1 ?_ ?_)
    | (with_reducible refine RetView.same ?_)
    | (with_reducible refine DrawLate.intro [] ?_)
    | (with_reducible refine Cls_and ?_ ?_)
    | (with_reducible exact Cls.self _ _)
    | (with_reducible refine Cls_same ?_)
    | (with_reducible refine Cls_in ?_ ?_)
    | (with_reducible refine Cls_fresh ?_ ?_)
    | (with_reducible refine And.intro (fun h => ?_) (fun h => ?_)) <;> (try (exfalso; omega))
    | (with_reducible refine And.intro (fun h => ?_) ?_) <;> (try (exfalso; omega))
    | ((with_reducible refine and_keep ?_ fun hk => ?_); omega)
    | (simp -dsimp -implicitDefEqProofs [*]))
  all_goals simp_all [validE, Bool.and_assoc]
end Go.Proofs.Ytbjfmedpaohpnaa
