/- The record's kinds of events: small functions. -/
import Derived.Test.YtahdhdgglbcagaaCode
import Derived.Test.YtahdhdgglbcagaaLFz
namespace Go.Proofs.Ytahdhdgglbcagaa
open Go.Pv
set_option maxRecDepth 100000
structure Event where
  no : Int
  kind : Int
  round : Int
  entry : Int
  judge : Int
  item : Int
  value : Int
  at' : Int
  known : Int
  deriving DecidableEq, Inhabited
def Event.enc (x : Event) : List PV := [.int x.no, .int x.kind, .int x.round, .int x.entry, .int x.judge, .int x.item, .int x.value, .int x.at', .int x.known]
abbrev Event.pv (x : Event) : PV := .agg x.enc
@[simp] theorem Event.len (x : Event) : x.enc.length = 9 := rfl
@[simp] theorem Event.subAll (x : Event) : sub x.enc 0 9 = some x.enc := rfl
@[simp] theorem Event.get0 (x : Event) : x.enc[0]? = some (.int x.no) := rfl
@[simp] theorem Event.getE0 (x : Event) (h : 0 < x.enc.length) : x.enc[0]'h = .int x.no := rfl
@[simp] theorem Event.set0 (x : Event) (v : Int) : List.set x.enc 0 (.int v) = (Event.mk v x.kind x.round x.entry x.judge x.item x.value x.at' x.known).enc := rfl
@[simp] theorem Event.get1 (x : Event) : x.enc[1]? = some (.int x.kind) := rfl
@[simp] theorem Event.getE1 (x : Event) (h : 1 < x.enc.length) : x.enc[1]'h = .int x.kind := rfl
@[simp] theorem Event.set1 (x : Event) (v : Int) : List.set x.enc 1 (.int v) = (Event.mk x.no v x.round x.entry x.judge x.item x.value x.at' x.known).enc := rfl
@[simp] theorem Event.get2 (x : Event) : x.enc[2]? = some (.int x.round) := rfl
@[simp] theorem Event.getE2 (x : Event) (h : 2 < x.enc.length) : x.enc[2]'h = .int x.round := rfl
@[simp] theorem Event.set2 (x : Event) (v : Int) : List.set x.enc 2 (.int v) = (Event.mk x.no x.kind v x.entry x.judge x.item x.value x.at' x.known).enc := rfl
@[simp] theorem Event.get3 (x : Event) : x.enc[3]? = some (.int x.entry) := rfl
@[simp] theorem Event.getE3 (x : Event) (h : 3 < x.enc.length) : x.enc[3]'h = .int x.entry := rfl
@[simp] theorem Event.set3 (x : Event) (v : Int) : List.set x.enc 3 (.int v) = (Event.mk x.no x.kind x.round v x.judge x.item x.value x.at' x.known).enc := rfl
@[simp] theorem Event.get4 (x : Event) : x.enc[4]? = some (.int x.judge) := rfl
@[simp] theorem Event.getE4 (x : Event) (h : 4 < x.enc.length) : x.enc[4]'h = .int x.judge := rfl
@[simp] theorem Event.set4 (x : Event) (v : Int) : List.set x.enc 4 (.int v) = (Event.mk x.no x.kind x.round x.entry v x.item x.value x.at' x.known).enc := rfl
@[simp] theorem Event.get5 (x : Event) : x.enc[5]? = some (.int x.item) := rfl
@[simp] theorem Event.getE5 (x : Event) (h : 5 < x.enc.length) : x.enc[5]'h = .int x.item := rfl
@[simp] theorem Event.set5 (x : Event) (v : Int) : List.set x.enc 5 (.int v) = (Event.mk x.no x.kind x.round x.entry x.judge v x.value x.at' x.known).enc := rfl
@[simp] theorem Event.get6 (x : Event) : x.enc[6]? = some (.int x.value) := rfl
@[simp] theorem Event.getE6 (x : Event) (h : 6 < x.enc.length) : x.enc[6]'h = .int x.value := rfl
@[simp] theorem Event.set6 (x : Event) (v : Int) : List.set x.enc 6 (.int v) = (Event.mk x.no x.kind x.round x.entry x.judge x.item v x.at' x.known).enc := rfl
@[simp] theorem Event.get7 (x : Event) : x.enc[7]? = some (.int x.at') := rfl
@[simp] theorem Event.getE7 (x : Event) (h : 7 < x.enc.length) : x.enc[7]'h = .int x.at' := rfl
@[simp] theorem Event.set7 (x : Event) (v : Int) : List.set x.enc 7 (.int v) = (Event.mk x.no x.kind x.round x.entry x.judge x.item x.value v x.known).enc := rfl
@[simp] theorem Event.get8 (x : Event) : x.enc[8]? = some (.int x.known) := rfl
@[simp] theorem Event.getE8 (x : Event) (h : 8 < x.enc.length) : x.enc[8]'h = .int x.known := rfl
@[simp] theorem Event.set8 (x : Event) (v : Int) : List.set x.enc 8 (.int v) = (Event.mk x.no x.kind x.round x.entry x.judge x.item x.value x.at' v).enc := rfl
@[simp] theorem Event.fz (b : Nat) (o : PObj) (k : Nat) (x : Event) : fzps b o k x.enc = x.enc := rfl
theorem Event.fold (v0 v1 v2 v3 v4 v5 v6 v7 v8 : Int) : [PV.int v0, PV.int v1, PV.int v2, PV.int v3, PV.int v4, PV.int v5, PV.int v6, PV.int v7, PV.int v8] = (Event.mk v0 v1 v2 v3 v4 v5 v6 v7 v8).enc := rfl
@[simp] theorem Event.fill (x y : Event) : setCells x.enc 0 y.enc = y.enc := rfl
@[simp] theorem Event.eq (x y : Event) : eqCells [.int, .int, .int, .int, .int, .int, .int, .int, .int] x.enc y.enc = some (decide (x = y)) := by
  simp [Event.enc]
  cases x; cases y; simp [Event.mk.injEq]
@[simp] theorem Event.key (x : Event) : PV.vals? x.enc = some [.int .i64 x.no, .int .i64 x.kind, .int .i64 x.round, .int .i64 x.entry, .int .i64 x.judge, .int .i64 x.item, .int .i64 x.value, .int .i64 x.at', .int .i64 x.known] := rfl
def Event.row (l : List Event) : List PV := l.flatMap Event.enc
abbrev Event.lst (t : Bool) (l : List Event) : PV := .list t (Event.row l) l.length
@[simp] theorem Event.row_len (l : List Event) : (Event.row l).length = l.length * 9 := flat_length Event.enc 9 Event.len l
@[simp] theorem Event.row_nil : Event.row [] = [] := rfl
@[simp] theorem Event.row_cons (x : Event) (l : List Event) : Event.row (x :: l) = x.enc ++ Event.row l := rfl
theorem Event.row_append (l m : List Event) : Event.row (l ++ m) = Event.row l ++ Event.row m := by simp [Event.row]
@[simp] theorem Event.row_eq_nil (l : List Event) : Event.row l = [] ↔ l = [] := by
  constructor
  · intro h
    have := congrArg List.length h
    rw [Event.row_len] at this
    cases l with
    | nil => rfl
    | cons => simp at this
  · rintro rfl; rfl
@[simp] theorem Event.row_sub (l : List Event) (i : Nat) (h : i < l.length) : sub (Event.row l) (i * 9) 9 = some (l[i]).enc := flat_sub Event.enc 9 Event.len l i h
theorem Event.row_drop (l : List Event) (i : Nat) : (Event.row l).drop (i * 9) = Event.row (l.drop i) := flat_drop Event.enc 9 Event.len l i
theorem Event.row_take (l : List Event) (i : Nat) : (Event.row l).take (i * 9) = Event.row (l.take i) := flat_take Event.enc 9 Event.len l i
@[simp] theorem Event.row_getE0 (l : List Event) (i : Nat) (h : i * 9 < (Event.row l).length) : (Event.row l)[i * 9]'h = .int (l[i]'(by rw [Event.row_len] at h; omega)).no := by
  have hl : i < l.length := by rw [Event.row_len] at h; omega
  have := flat_get Event.enc 9 Event.len l i 0 hl (by omega)
  have h2 : (Event.row l)[i * 9]? = some (.int l[i].no) := this
  rw [List.getElem?_eq_getElem h] at h2
  exact Option.some.inj h2
@[simp] theorem Event.row_get0 (l : List Event) (i : Nat) (h : i < l.length) : (Event.row l)[i * 9]? = some (.int l[i].no) := flat_get Event.enc 9 Event.len l i 0 h (by omega)
@[simp] theorem Event.row_getE1 (l : List Event) (i : Nat) (h : i * 9 + 1 < (Event.row l).length) : (Event.row l)[i * 9 + 1]'h = .int (l[i]'(by rw [Event.row_len] at h; omega)).kind := by
  have hl : i < l.length := by rw [Event.row_len] at h; omega
  have := flat_get Event.enc 9 Event.len l i 1 hl (by omega)
  have h2 : (Event.row l)[i * 9 + 1]? = some (.int l[i].kind) := this
  rw [List.getElem?_eq_getElem h] at h2
  exact Option.some.inj h2
@[simp] theorem Event.row_get1 (l : List Event) (i : Nat) (h : i < l.length) : (Event.row l)[i * 9 + 1]? = some (.int l[i].kind) := flat_get Event.enc 9 Event.len l i 1 h (by omega)
@[simp] theorem Event.row_getE2 (l : List Event) (i : Nat) (h : i * 9 + 2 < (Event.row l).length) : (Event.row l)[i * 9 + 2]'h = .int (l[i]'(by rw [Event.row_len] at h; omega)).round := by
  have hl : i < l.length := by rw [Event.row_len] at h; omega
  have := flat_get Event.enc 9 Event.len l i 2 hl (by omega)
  have h2 : (Event.row l)[i * 9 + 2]? = some (.int l[i].round) := this
  rw [List.getElem?_eq_getElem h] at h2
  exact Option.some.inj h2
@[simp] theorem Event.row_get2 (l : List Event) (i : Nat) (h : i < l.length) : (Event.row l)[i * 9 + 2]? = some (.int l[i].round) := flat_get Event.enc 9 Event.len l i 2 h (by omega)
@[simp] theorem Event.row_getE3 (l : List Event) (i : Nat) (h : i * 9 + 3 < (Event.row l).length) : (Event.row l)[i * 9 + 3]'h = .int (l[i]'(by rw [Event.row_len] at h; omega)).entry := by
  have hl : i < l.length := by rw [Event.row_len] at h; omega
  have := flat_get Event.enc 9 Event.len l i 3 hl (by omega)
  have h2 : (Event.row l)[i * 9 + 3]? = some (.int l[i].entry) := this
  rw [List.getElem?_eq_getElem h] at h2
  exact Option.some.inj h2
@[simp] theorem Event.row_get3 (l : List Event) (i : Nat) (h : i < l.length) : (Event.row l)[i * 9 + 3]? = some (.int l[i].entry) := flat_get Event.enc 9 Event.len l i 3 h (by omega)
@[simp] theorem Event.row_getE4 (l : List Event) (i : Nat) (h : i * 9 + 4 < (Event.row l).length) : (Event.row l)[i * 9 + 4]'h = .int (l[i]'(by rw [Event.row_len] at h; omega)).judge := by
  have hl : i < l.length := by rw [Event.row_len] at h; omega
  have := flat_get Event.enc 9 Event.len l i 4 hl (by omega)
  have h2 : (Event.row l)[i * 9 + 4]? = some (.int l[i].judge) := this
  rw [List.getElem?_eq_getElem h] at h2
  exact Option.some.inj h2
@[simp] theorem Event.row_get4 (l : List Event) (i : Nat) (h : i < l.length) : (Event.row l)[i * 9 + 4]? = some (.int l[i].judge) := flat_get Event.enc 9 Event.len l i 4 h (by omega)
@[simp] theorem Event.row_getE5 (l : List Event) (i : Nat) (h : i * 9 + 5 < (Event.row l).length) : (Event.row l)[i * 9 + 5]'h = .int (l[i]'(by rw [Event.row_len] at h; omega)).item := by
  have hl : i < l.length := by rw [Event.row_len] at h; omega
  have := flat_get Event.enc 9 Event.len l i 5 hl (by omega)
  have h2 : (Event.row l)[i * 9 + 5]? = some (.int l[i].item) := this
  rw [List.getElem?_eq_getElem h] at h2
  exact Option.some.inj h2
@[simp] theorem Event.row_get5 (l : List Event) (i : Nat) (h : i < l.length) : (Event.row l)[i * 9 + 5]? = some (.int l[i].item) := flat_get Event.enc 9 Event.len l i 5 h (by omega)
@[simp] theorem Event.row_getE6 (l : List Event) (i : Nat) (h : i * 9 + 6 < (Event.row l).length) : (Event.row l)[i * 9 + 6]'h = .int (l[i]'(by rw [Event.row_len] at h; omega)).value := by
  have hl : i < l.length := by rw [Event.row_len] at h; omega
  have := flat_get Event.enc 9 Event.len l i 6 hl (by omega)
  have h2 : (Event.row l)[i * 9 + 6]? = some (.int l[i].value) := this
  rw [List.getElem?_eq_getElem h] at h2
  exact Option.some.inj h2
@[simp] theorem Event.row_get6 (l : List Event) (i : Nat) (h : i < l.length) : (Event.row l)[i * 9 + 6]? = some (.int l[i].value) := flat_get Event.enc 9 Event.len l i 6 h (by omega)
@[simp] theorem Event.row_getE7 (l : List Event) (i : Nat) (h : i * 9 + 7 < (Event.row l).length) : (Event.row l)[i * 9 + 7]'h = .int (l[i]'(by rw [Event.row_len] at h; omega)).at' := by
  have hl : i < l.length := by rw [Event.row_len] at h; omega
  have := flat_get Event.enc 9 Event.len l i 7 hl (by omega)
  have h2 : (Event.row l)[i * 9 + 7]? = some (.int l[i].at') := this
  rw [List.getElem?_eq_getElem h] at h2
  exact Option.some.inj h2
@[simp] theorem Event.row_get7 (l : List Event) (i : Nat) (h : i < l.length) : (Event.row l)[i * 9 + 7]? = some (.int l[i].at') := flat_get Event.enc 9 Event.len l i 7 h (by omega)
@[simp] theorem Event.row_getE8 (l : List Event) (i : Nat) (h : i * 9 + 8 < (Event.row l).length) : (Event.row l)[i * 9 + 8]'h = .int (l[i]'(by rw [Event.row_len] at h; omega)).known := by
  have hl : i < l.length := by rw [Event.row_len] at h; omega
  have := flat_get Event.enc 9 Event.len l i 8 hl (by omega)
  have h2 : (Event.row l)[i * 9 + 8]? = some (.int l[i].known) := this
  rw [List.getElem?_eq_getElem h] at h2
  exact Option.some.inj h2
@[simp] theorem Event.row_get8 (l : List Event) (i : Nat) (h : i < l.length) : (Event.row l)[i * 9 + 8]? = some (.int l[i].known) := flat_get Event.enc 9 Event.len l i 8 h (by omega)
theorem Event.row_set (l : List Event) (i : Nat) (x : Event) (h : i < l.length) : setCells (Event.row l) (i * 9) x.enc = Event.row (l.set i x) := flat_set Event.enc 9 Event.len l i x h
theorem Event.row_fz (b : Nat) (o : PObj) (k : Nat) (l : List Event) : fzps b o k (Event.row l) = Event.row l := flat_fz Event.enc Event.fz b o k l
attribute [simp] Event.row_fz


def btw (n lo hi : Int) : Bool := decide (lo ≤ n) && decide (n ≤ hi)
theorem between_spec (n lo hi : Int) (st : Store) : Rets P F.record_between [.int n, .int lo, .int hi] st (.bool (btw n lo hi)) := by
  refine H.record_between.pure hmix rfl rfl ?_
  simp -dsimp -implicitDefEqProofs
  simp [btw]; grind
def itemOK (e : Event) : Bool := btw e.item 0 63 && btw e.value 0 1000
theorem kinds1_spec (e : Event) (st : Store) : Rets P F.record_kinds_1 [e.pv] st (.bool (itemOK e)) := by
  refine H.record_kinds_1.pure hmix rfl rfl ?_
  repeat' (first
    | (with_reducible refine Fresh.intro fun b hb => ?_) <;> (try simp -dsimp -implicitDefEqProofs [*] at hb)
    | (with_reducible refine Rets.xcall (between_spec ..) ?_)
    | (with_reducible refine Rets.xsoft (between_spec ..) ?_)
    | (with_reducible refine xlateCall_of (fun _ => between_spec ..) ?_)
    | (with_reducible refine Lit.imm ?_)
    | ((with_reducible refine Grow.intro ?_ fun b cap hb hc1 hc2 => ?_); omega) <;> (try simp -dsimp -implicitDefEqProofs [*] at hb)
    | (with_reducible refine RetView.nil2 ?_)
    | (with_reducible refine RetView.nil1 ?_)
    | (with_reducible refine RetView.loose2 (t := true) ?_)
    | (with_reducible refine RetView.loose1 (t := true) ?_)
    | (with_reducible refine RetView.fz 1 ?_ ?_)
    | (with_reducible refine RetView.same ?_)
    | (with_reducible refine DrawLate.intro [] ?_)
    | (with_reducible refine Cls_and ?_ ?_)
    | (with_reducible exact Cls.self _ _)
    | (with_reducible refine Cls_same ?_)
    | (with_reducible refine Cls_in ?_ ?_)
    | (with_reducible refine Cls_fresh ?_ ?_)
    | (with_reducible refine And.intro (fun h => ?_) (fun h => ?_)) <;> (try (exfalso; omega))
    | (with_reducible refine And.intro (fun h => ?_) ?_) <;> (try (exfalso; omega))
    | ((with_reducible refine and_keep ?_ fun hk => ?_); omega)
    | (simp -dsimp -implicitDefEqProofs [*]))
  all_goals simp_all [itemOK]
def pvK1 : PV := .func (.func F.record_kinds_1) [] []
theorem kinds2_spec (e : Event) (st : Store) : Rets P F.record_kinds_2 [e.pv, .iptr [pvK1] 0] st (.bool (e.judge == 0 && itemOK e)) := by
  refine H.record_kinds_2.pure hmix rfl rfl ?_
  repeat' (first
    | (with_reducible refine Fresh.intro fun b hb => ?_) <;> (try simp -dsimp -implicitDefEqProofs [*] at hb)
    | (with_reducible refine Rets.xcall (kinds1_spec e _) ?_)
    | (with_reducible refine Rets.xsoft (kinds1_spec e _) ?_)
    | (with_reducible refine xlateCall_of (fun _ => kinds1_spec e _) ?_)
    | (with_reducible refine Lit.imm ?_)
    | ((with_reducible refine Grow.intro ?_ fun b cap hb hc1 hc2 => ?_); omega) <;> (try simp -dsimp -implicitDefEqProofs [*] at hb)
    | (with_reducible refine RetView.nil2 ?_)
    | (with_reducible refine RetView.nil1 ?_)
    | (with_reducible refine RetView.loose2 (t := true) ?_)
    | (with_reducible refine RetView.loose1 (t := true) ?_)
    | (with_reducible refine RetView.fz 1 ?_ ?_)
    | (with_reducible refine RetView.same ?_)
    | (with_reducible refine DrawLate.intro [] ?_)
    | (with_reducible refine Cls_and ?_ ?_)
    | (with_reducible exact Cls.self _ _)
    | (with_reducible refine Cls_same ?_)
    | (with_reducible refine Cls_in ?_ ?_)
    | (with_reducible refine Cls_fresh ?_ ?_)
    | (with_reducible refine And.intro (fun h => ?_) (fun h => ?_)) <;> (try (exfalso; omega))
    | (with_reducible refine And.intro (fun h => ?_) ?_) <;> (try (exfalso; omega))
    | ((with_reducible refine and_keep ?_ fun hk => ?_); omega)
    | (simp -dsimp -implicitDefEqProofs [pvK1, *]))
  all_goals (try simp_all [itemOK])
theorem kinds3_spec (e : Event) (st : Store) : Rets P F.record_kinds_3 [e.pv, .iptr [pvK1] 0] st (.bool (btw e.judge 0 255 && itemOK e)) := by
  refine H.record_kinds_3.pure hmix rfl rfl ?_
  repeat' (first
    | (with_reducible refine Fresh.intro fun b hb => ?_) <;> (try simp -dsimp -implicitDefEqProofs [*] at hb)
    | (with_reducible refine Rets.xcall (between_spec ..) ?_)
    | (with_reducible refine Rets.xsoft (between_spec ..) ?_)
    | (with_reducible refine xlateCall_of (fun _ => between_spec ..) ?_)
    | (with_reducible refine Rets.xcall (kinds1_spec e _) ?_)
    | (with_reducible refine Rets.xsoft (kinds1_spec e _) ?_)
    | (with_reducible refine xlateCall_of (fun _ => kinds1_spec e _) ?_)
    | (with_reducible refine Lit.imm ?_)
    | ((with_reducible refine Grow.intro ?_ fun b cap hb hc1 hc2 => ?_); omega) <;> (try simp -dsimp -implicitDefEqProofs [*] at hb)
    | (with_reducible refine RetView.nil2 ?_)
    | (with_reducible refine RetView.nil1 ?_)
    | (with_reducible refine RetView.loose2 (t := true) ?_)
    | (with_reducible refine RetView.loose1 (t := true) ?_)
    | (with_reducible refine RetView.fz 1 ?_ ?_)
    | (with_reducible refine RetView.same ?_)
    | (with_reducible refine DrawLate.intro [] ?_)
    | (with_reducible refine Cls_and ?_ ?_)
    | (with_reducible exact Cls.self _ _)
    | (with_reducible refine Cls_same ?_)
    | (with_reducible refine Cls_in ?_ ?_)
    | (with_reducible refine Cls_fresh ?_ ?_)
    | (with_reducible refine And.intro (fun h => ?_) (fun h => ?_)) <;> (try (exfalso; omega))
    | (with_reducible refine And.intro (fun h => ?_) ?_) <;> (try (exfalso; omega))
    | ((with_reducible refine and_keep ?_ fun hk => ?_); omega)
    | (simp -dsimp -implicitDefEqProofs [pvK1, *]))
  all_goals (try simp_all [itemOK])
theorem kinds4_spec (e : Event) (st : Store) : Rets P F.record_kinds_4 [e.pv] st (.bool (e.judge == 0 && e.item == 0 && btw e.value 0 1)) := by
  refine H.record_kinds_4.pure hmix rfl rfl ?_
  repeat' (first
    | (with_reducible refine Fresh.intro fun b hb => ?_) <;> (try simp -dsimp -implicitDefEqProofs [*] at hb)
    | (with_reducible refine Rets.xcall (between_spec ..) ?_)
    | (with_reducible refine Rets.xsoft (between_spec ..) ?_)
    | (with_reducible refine xlateCall_of (fun _ => between_spec ..) ?_)
    | (with_reducible refine Lit.imm ?_)
    | ((with_reducible refine Grow.intro ?_ fun b cap hb hc1 hc2 => ?_); omega) <;> (try simp -dsimp -implicitDefEqProofs [*] at hb)
    | (with_reducible refine RetView.nil2 ?_)
    | (with_reducible refine RetView.nil1 ?_)
    | (with_reducible refine RetView.loose2 (t := true) ?_)
    | (with_reducible refine RetView.loose1 (t := true) ?_)
    | (with_reducible refine RetView.fz 1 ?_ ?_)
    | (with_reducible refine RetView.same ?_)
    | (with_reducible refine DrawLate.intro [] ?_)
    | (with_reducible refine Cls_and ?_ ?_)
    | (with_reducible exact Cls.self _ _)
    | (with_reducible refine Cls_same ?_)
    | (with_reducible refine Cls_in ?_ ?_)
    | (with_reducible refine Cls_fresh ?_ ?_)
    | (with_reducible refine And.intro (fun h => ?_) (fun h => ?_)) <;> (try (exfalso; omega))
    | (with_reducible refine And.intro (fun h => ?_) ?_) <;> (try (exfalso; omega))
    | ((with_reducible refine and_keep ?_ fun hk => ?_); omega)
    | (simp -dsimp -implicitDefEqProofs [*]))
  all_goals (try simp_all [itemOK])
def kv (f : FuncId) (cap : List PV) : PV := .agg [.func (.func f) [] cap]
def pvKinds : PV := .imap [.int .i64 1, .int .i64 2, .int .i64 3, .int .i64 4]
  [kv F.record_kinds_3 [.iptr [pvK1] 0], kv F.record_kinds_2 [.iptr [pvK1] 0], kv F.record_kinds_2 [.iptr [pvK1] 0], kv F.record_kinds_4 []]
theorem kinds_spec (st : Store) : Rets P F.record_kinds [] st pvKinds := by
  refine H.record_kinds.view hmix rfl rfl ?_
  repeat' (first
    | (with_reducible refine Fresh.intro fun b hb => ?_) <;> (try simp -dsimp -implicitDefEqProofs [*] at hb)
    | (with_reducible refine Lit.imm ?_)
    | ((with_reducible refine Grow.intro ?_ fun b cap hb hc1 hc2 => ?_); omega) <;> (try simp -dsimp -implicitDefEqProofs [*] at hb)
    | (with_reducible refine RetView.nil2 ?_)
    | (with_reducible refine RetView.nil1 ?_)
    | (with_reducible refine RetView.loose2 (t := true) ?_)
    | (with_reducible refine RetView.loose1 (t := true) ?_)
    | (with_reducible refine RetView.fz 1 ?_ ?_)
    | (with_reducible refine RetView.same ?_)
    | (with_reducible refine DrawLate.intro [] ?_)
    | (with_reducible refine Cls_and ?_ ?_)
    | (with_reducible exact Cls.self _ _)
    | (with_reducible refine Cls_same ?_)
    | (with_reducible refine Cls_in ?_ ?_)
    | (with_reducible refine Cls_fresh ?_ ?_)
    | (with_reducible refine And.intro (fun h => ?_) (fun h => ?_)) <;> (try (exfalso; omega))
    | (with_reducible refine And.intro (fun h => ?_) ?_) <;> (try (exfalso; omega))
    | ((with_reducible refine and_keep ?_ fun hk => ?_); omega)
    | (simp -dsimp -implicitDefEqProofs [pvKinds, kv, pvK1, *]))
def rightE (e : Event) : Bool :=
  (btw e.no 0 1048576 && btw e.round 0 7 && btw e.entry 0 4095) && (btw e.at' 0 2097151 && btw e.known 0 2097151) &&
  (if e.kind = 1 then btw e.judge 0 255 && itemOK e else if e.kind = 2 ∨ e.kind = 3 then e.judge == 0 && itemOK e else if e.kind = 4 then e.judge == 0 && e.item == 0 && btw e.value 0 1 else false)
theorem right_spec (e : Event) (st : Store) : Rets P F.record_right [e.pv, pvKinds] st (.bool (rightE e)) := by
  refine H.record_right.pure hmix rfl rfl ?_
  repeat' (first
    | (with_reducible refine Fresh.intro fun b hb => ?_) <;> (try simp -dsimp -implicitDefEqProofs [*] at hb)
    | (with_reducible refine Rets.xcall (between_spec ..) ?_)
    | (with_reducible refine Rets.xsoft (between_spec ..) ?_)
    | (with_reducible refine xlateCall_of (fun _ => between_spec ..) ?_)
    | (with_reducible refine Rets.xcall (kinds2_spec e _) ?_)
    | (with_reducible refine Rets.xsoft (kinds2_spec e _) ?_)
    | (with_reducible refine xlateCall_of (fun _ => kinds2_spec e _) ?_)
    | (with_reducible refine Rets.xcall (kinds3_spec e _) ?_)
    | (with_reducible refine Rets.xsoft (kinds3_spec e _) ?_)
    | (with_reducible refine xlateCall_of (fun _ => kinds3_spec e _) ?_)
    | (with_reducible refine Rets.xcall (kinds4_spec e _) ?_)
    | (with_reducible refine Rets.xsoft (kinds4_spec e _) ?_)
    | (with_reducible refine xlateCall_of (fun _ => kinds4_spec e _) ?_)
    | (with_reducible refine Lit.imm ?_)
    | ((with_reducible refine Grow.intro ?_ fun b cap hb hc1 hc2 => ?_); omega) <;> (try simp -dsimp -implicitDefEqProofs [*] at hb)
    | (with_reducible refine RetView.nil2 ?_)
    | (with_reducible refine RetView.nil1 ?_)
    | (with_reducible refine RetView.loose2 (t := true) ?_)
    | (with_reducible refine RetView.loose1 (t := true) ?_)
    | (with_reducible refine RetView.fz 1 ?_ ?_)
    | (with_reducible refine RetView.same ?_)
    | (with_reducible refine DrawLate.intro [] ?_)
    | (with_reducible refine Cls_and ?_ ?_)
    | (with_reducible exact Cls.self _ _)
    | (with_reducible refine Cls_same ?_)
    | (with_reducible refine Cls_in ?_ ?_)
    | (with_reducible refine Cls_fresh ?_ ?_)
    | (with_reducible refine And.intro (fun h => ?_) (fun h => ?_)) <;> (try (exfalso; omega))
    | (with_reducible refine And.intro (fun h => ?_) ?_) <;> (try (exfalso; omega))
    | ((with_reducible refine and_keep ?_ fun hk => ?_); omega)
    | (simp -dsimp -implicitDefEqProofs [pvKinds, kv, *]))
  all_goals simp_all [rightE]
end Go.Proofs.Ytahdhdgglbcagaa
