/- The record's kinds of events: small functions. -/
import Derived.Test.YthkjdppifnmakaaCode
import Derived.Test.YthkjdppifnmakaaLLo
namespace Go.Proofs.Ythkjdppifnmakaa
open Go.Pv
set_option maxRecDepth 100000
structure Event where
  no : Int
  kind : Int
  round : Int
  entry : Int
  judge : Int
  item : Int
  value : Int
  at' : Int
  known : Int
  deriving DecidableEq, Inhabited
def Event.enc (x : Event) : List PV := [.int x.no, .int x.kind, .int x.round, .int x.entry, .int x.judge, .int x.item, .int x.value, .int x.at', .int x.known]
abbrev Event.pv (x : Event) : PV := .agg x.enc
@[simp] theorem Event.len (x : Event) : x.enc.length = 9 := rfl
@[simp] theorem Event.subAll (x : Event) : sub x.enc 0 9 = some x.enc := rfl
@[simp] theorem Event.get0 (x : Event) : x.enc[0]? = some (.int x.no) := rfl
@[simp] theorem Event.getE0 (x : Event) (h : 0 < x.enc.length) : x.enc[0]'h = .int x.no := rfl
@[simp] theorem Event.set0 (x : Event) (v : Int) : List.set x.enc 0 (.int v) = (Event.mk v x.kind x.round x.entry x.judge x.item x.value x.at' x.known).enc := rfl
@[simp] theorem Event.get1 (x : Event) : x.enc[1]? = some (.int x.kind) := rfl
@[simp] theorem Event.getE1 (x : Event) (h : 1 < x.enc.length) : x.enc[1]'h = .int x.kind := rfl
@[simp] theorem Event.set1 (x : Event) (v : Int) : List.set x.enc 1 (.int v) = (Event.mk x.no v x.round x.entry x.judge x.item x.value x.at' x.known).enc := rfl
@[simp] theorem Event.get2 (x : Event) : x.enc[2]? = some (.int x.round) := rfl
@[simp] theorem Event.getE2 (x : Event) (h : 2 < x.enc.length) : x.enc[2]'h = .int x.round := rfl
@[simp] theorem Event.set2 (x : Event) (v : Int) : List.set x.enc 2 (.int v) = (Event.mk x.no x.kind v x.entry x.judge x.item x.value x.at' x.known).enc := rfl
@[simp] theorem Event.get3 (x : Event) : x.enc[3]? = some (.int x.entry) := rfl
@[simp] theorem Event.getE3 (x : Event) (h : 3 < x.enc.length) : x.enc[3]'h = .int x.entry := rfl
@[simp] theorem Event.set3 (x : Event) (v : Int) : List.set x.enc 3 (.int v) = (Event.mk x.no x.kind x.round v x.judge x.item x.value x.at' x.known).enc := rfl
@[simp] theorem Event.get4 (x : Event) : x.enc[4]? = some (.int x.judge) := rfl
@[simp] theorem Event.getE4 (x : Event) (h : 4 < x.enc.length) : x.enc[4]'h = .int x.judge := rfl
@[simp] theorem Event.set4 (x : Event) (v : Int) : List.set x.enc 4 (.int v) = (Event.mk x.no x.kind x.round x.entry v x.item x.value x.at' x.known).enc := rfl
@[simp] theorem Event.get5 (x : Event) : x.enc[5]? = some (.int x.item) := rfl
@[simp] theorem Event.getE5 (x : Event) (h : 5 < x.enc.length) : x.enc[5]'h = .int x.item := rfl
@[simp] theorem Event.set5 (x : Event) (v : Int) : List.set x.enc 5 (.int v) = (Event.mk x.no x.kind x.round x.entry x.judge v x.value x.at' x.known).enc := rfl
@[simp] theorem Event.get6 (x : Event) : x.enc[6]? = some (.int x.value) := rfl
@[simp] theorem Event.getE6 (x : Event) (h : 6 < x.enc.length) : x.enc[6]'h = .int x.value := rfl
@[simp] theorem Event.set6 (x : Event) (v : Int) : List.set x.enc 6 (.int v) = (Event.mk x.no x.kind x.round x.entry x.judge x.item v x.at' x.known).enc := rfl
@[simp] theorem Event.get7 (x : Event) : x.enc[7]? = some (.int x.at') := rfl
@[simp] theorem Event.getE7 (x : Event) (h : 7 < x.enc.length) : x.enc[7]'h = .int x.at' := rfl
@[simp] theorem Event.set7 (x : Event) (v : Int) : List.set x.enc 7 (.int v) = (Event.mk x.no x.kind x.round x.entry x.judge x.item x.value v x.known).enc := rfl
@[simp] theorem Event.get8 (x : Event) : x.enc[8]? = some (.int x.known) := rfl
@[simp] theorem Event.getE8 (x : Event) (h : 8 < x.enc.length) : x.enc[8]'h = .int x.known := rfl
@[simp] theorem Event.set8 (x : Event) (v : Int) : List.set x.enc 8 (.int v) = (Event.mk x.no x.kind x.round x.entry x.judge x.item x.value x.at' v).enc := rfl
@[simp] theorem Event.fz (b : Nat) (o : PObj) (k : Nat) (x : Event) : fzps b o k x.enc = x.enc := rfl
theorem Event.fold (v0 v1 v2 v3 v4 v5 v6 v7 v8 : Int) : [PV.int v0, PV.int v1, PV.int v2, PV.int v3, PV.int v4, PV.int v5, PV.int v6, PV.int v7, PV.int v8] = (Event.mk v0 v1 v2 v3 v4 v5 v6 v7 v8).enc := rfl
@[simp] theorem Event.fill (x y : Event) : setCells x.enc 0 y.enc = y.enc := rfl
@[simp] theorem Event.eq (x y : Event) : eqCells [.int, .int, .int, .int, .int, .int, .int, .int, .int] x.enc y.enc = some (decide (x = y)) := by
  simp [Event.enc]
  cases x; cases y; simp [Event.mk.injEq]
@[simp] theorem Event.key (x : Event) : PV.vals? x.enc = some [.int .i64 x.no, .int .i64 x.kind, .int .i64 x.round, .int .i64 x.entry, .int .i64 x.judge, .int .i64 x.item, .int .i64 x.value, .int .i64 x.at', .int .i64 x.known] := rfl
def Event.row (l : List Event) : List PV := l.flatMap Event.enc
abbrev Event.lst (t : Bool) (l : List Event) : PV := .list t (Event.row l) l.length
@[simp] theorem Event.row_len (l : List Event) : (Event.row l).length = l.length * 9 := flat_length Event.enc 9 Event.len l
@[simp] theorem Event.row_nil : Event.row [] = [] := rfl
@[simp] theorem Event.row_cons (x : Event) (l : List Event) : Event.row (x :: l) = x.enc ++ Event.row l := rfl
theorem Event.row_append (l m : List Event) : Event.row (l ++ m) = Event.row l ++ Event.row m := by simp [Event.row]
@[simp] theorem Event.row_eq_nil (l : List Event) : Event.row l = [] ↔ l = [] := by
  constructor
  · intro h
    have := congrArg List.length h
    rw [Event.row_len] at this
    cases l with
    | nil => rfl
    | cons => simp at this
  · rintro rfl; rfl
@[simp] theorem Event.row_sub (l : List Event) (i : Nat) (h : i < l.length) : sub (Event.row l) (i * 9) 9 = some (l[i]).enc := flat_sub Event.enc 9 Event.len l i h
theorem Event.row_drop (l : List Event) (i : Nat) : (Event.row l).drop (i * 9) = Event.row (l.drop i) := flat_drop Event.enc 9 Event.len l i
theorem Event.row_take (l : List Event) (i : Nat) : (Event.row l).take (i * 9) = Event.row (l.take i) := flat_take Event.enc 9 Event.len l i
@[simp] theorem Event.row_getE0 (l : List Event) (i : Nat) (h : i * 9 < (Event.row l).length) : (Event.row l)[i * 9]'h = .int (l[i]'(by rw [Event.row_len] at h; omega)).no := by
  have hl : i < l.length := by rw [Event.row_len] at h; omega
  have := flat_get Event.enc 9 Event.len l i 0 hl (by omega)
  have h2 : (Event.row l)[i * 9]? = some (.int l[i].no) := this
  rw [List.getElem?_eq_getElem h] at h2
  exact Option.some.inj h2
@[simp] theorem Event.row_get0 (l : List Event) (i : Nat) (h : i < l.length) : (Event.row l)[i * 9]? = some (.int l[i].no) := flat_get Event.enc 9 Event.len l i 0 h (by omega)
@[simp] theorem Event.row_getE1 (l : List Event) (i : Nat) (h : i * 9 + 1 < (Event.row l).length) : (Event.row l)[i * 9 + 1]'h = .int (l[i]'(by rw [Event.row_len] at h; omega)).kind := by
  have hl : i < l.length := by rw [Event.row_len] at h; omega
  have := flat_get Event.enc 9 Event.len l i 1 hl (by omega)
  have h2 : (Event.row l)[i * 9 + 1]? = some (.int l[i].kind) := this
  rw [List.getElem?_eq_getElem h] at h2
  exact Option.some.inj h2
@[simp] theorem Event.row_get1 (l : List Event) (i : Nat) (h : i < l.length) : (Event.row l)[i * 9 + 1]? = some (.int l[i].kind) := flat_get Event.enc 9 Event.len l i 1 h (by omega)
@[simp] theorem Event.row_getE2 (l : List Event) (i : Nat) (h : i * 9 + 2 < (Event.row l).length) : (Event.row l)[i * 9 + 2]'h = .int (l[i]'(by rw [Event.row_len] at h; omega)).round := by
  have hl : i < l.length := by rw [Event.row_len] at h; omega
  have := flat_get Event.enc 9 Event.len l i 2 hl (by omega)
  have h2 : (Event.row l)[i * 9 + 2]? = some (.int l[i].round) := this
  rw [List.getElem?_eq_getElem h] at h2
  exact Option.some.inj h2
@[simp] theorem Event.row_get2 (l : List Event) (i : Nat) (h : i < l.length) : (Event.row l)[i * 9 + 2]? = some (.int l[i].round) := flat_get Event.enc 9 Event.len l i 2 h (by omega)
@[simp] theorem Event.row_getE3 (l : List Event) (i : Nat) (h : i * 9 + 3 < (Event.row l).length) : (Event.row l)[i * 9 + 3]'h = .int (l[i]'(by rw [Event.row_len] at h; omega)).entry := by
  have hl : i < l.length := by rw [Event.row_len] at h; omega
  have := flat_get Event.enc 9 Event.len l i 3 hl (by omega)
  have h2 : (Event.row l)[i * 9 + 3]? = some (.int l[i].entry) := this
  rw [List.getElem?_eq_getElem h] at h2
  exact Option.some.inj h2
@[simp] theorem Event.row_get3 (l : List Event) (i : Nat) (h : i < l.length) : (Event.row l)[i * 9 + 3]? = some (.int l[i].entry) := flat_get Event.enc 9 Event.len l i 3 h (by omega)
@[simp] theorem Event.row_getE4 (l : List Event) (i : Nat) (h : i * 9 + 4 < (Event.row l).length) : (Event.row l)[i * 9 + 4]'h = .int (l[i]'(by rw [Event.row_len] at h; omega)).judge := by
  have hl : i < l.length := by rw [Event.row_len] at h; omega
  have := flat_get Event.enc 9 Event.len l i 4 hl (by omega)
  have h2 : (Event.row l)[i * 9 + 4]? = some (.int l[i].judge) := this
  rw [List.getElem?_eq_getElem h] at h2
  exact Option.some.inj h2
@[simp] theorem Event.row_get4 (l : List Event) (i : Nat) (h : i < l.length) : (Event.row l)[i * 9 + 4]? = some (.int l[i].judge) := flat_get Event.enc 9 Event.len l i 4 h (by omega)
@[simp] theorem Event.row_getE5 (l : List Event) (i : Nat) (h : i * 9 + 5 < (Event.row l).length) : (Event.row l)[i * 9 + 5]'h = .int (l[i]'(by rw [Event.row_len] at h; omega)).item := by
  have hl : i < l.length := by rw [Event.row_len] at h; omega
  have := flat_get Event.enc 9 Event.len l i 5 hl (by omega)
  have h2 : (Event.row l)[i * 9 + 5]? = some (.int l[i].item) := this
  rw [List.getElem?_eq_getElem h] at h2
  exact Option.some.inj h2
@[simp] theorem Event.row_get5 (l : List Event) (i : Nat) (h : i < l.length) : (Event.row l)[i * 9 + 5]? = some (.int l[i].item) := flat_get Event.enc 9 Event.len l i 5 h (by omega)
@[simp] theorem Event.row_getE6 (l : List Event) (i : Nat) (h : i * 9 + 6 < (Event.row l).length) : (Event.row l)[i * 9 + 6]'h = .int (l[i]'(by rw [Event.row_len] at h; omega)).value := by
  have hl : i < l.length := by rw [Event.row_len] at h; omega
  have := flat_get Event.enc 9 Event.len l i 6 hl (by omega)
  have h2 : (Event.row l)[i * 9 + 6]? = some (.int l[i].value) := this
  rw [List.getElem?_eq_getElem h] at h2
  exact Option.some.inj h2
@[simp] theorem Event.row_get6 (l : List Event) (i : Nat) (h : i < l.length) : (Event.row l)[i * 9 + 6]? = some (.int l[i].value) := flat_get Event.enc 9 Event.len l i 6 h (by omega)
@[simp] theorem Event.row_getE7 (l : List Event) (i : Nat) (h : i * 9 + 7 < (Event.row l).length) : (Event.row l)[i * 9 + 7]'h = .int (l[i]'(by rw [Event.row_len] at h; omega)).at' := by
  have hl : i < l.length := by rw [Event.row_len] at h; omega
  have := flat_get Event.enc 9 Event.len l i 7 hl (by omega)
  have h2 : (Event.row l)[i * 9 + 7]? = some (.int l[i].at') := this
  rw [List.getElem?_eq_getElem h] at h2
  exact Option.some.inj h2
@[simp] theorem Event.row_get7 (l : List Event) (i : Nat) (h : i < l.length) : (Event.row l)[i * 9 + 7]? = some (.int l[i].at') := flat_get Event.enc 9 Event.len l i 7 h (by omega)
@[simp] theorem Event.row_getE8 (l : List Event) (i : Nat) (h : i * 9 + 8 < (Event.row l).length) : (Event.row l)[i * 9 + 8]'h = .int (l[i]'(by rw [Event.row_len] at h; omega)).known := by
  have hl : i < l.length := by rw [Event.row_len] at h; omega
  have := flat_get Event.enc 9 Event.len l i 8 hl (by omega)
  have h2 : (Event.row l)[i * 9 + 8]? = some (.int l[i].known) := this
  rw [List.getElem?_eq_getElem h] at h2
  exact Option.some.inj h2
@[simp] theorem Event.row_get8 (l : List Event) (i : Nat) (h : i < l.length) : (Event.row l)[i * 9 + 8]? = some (.int l[i].known) := flat_get Event.enc 9 Event.len l i 8 h (by omega)
theorem Event.row_set (l : List Event) (i : Nat) (x : Event) (h : i < l.length) : setCells (Event.row l) (i * 9) x.enc = Event.row (l.set i x) := flat_set Event.enc 9 Event.len l i x h
theorem Event.row_fz (b : Nat) (o : PObj) (k : Nat) (l : List Event) : fzps b o k (Event.row l) = Event.row l := flat_fz Event.enc Event.fz b o k l
attribute [simp] Event.row_fz

structure Decision where
  no : Int
  known : Int
  kind : Int
  target : Int
  value : Int
  eno : Int
  ekind : Int
  eround : Int
  eentry : Int
  ejudge : Int
  eitem : Int
  evalue : Int
  eat : Int
  eknown : Int
  deriving DecidableEq, Inhabited
def Decision.enc (x : Decision) : List PV := [.int x.no, .int x.known, .int x.kind, .int x.target, .int x.value, .int x.eno, .int x.ekind, .int x.eround, .int x.eentry, .int x.ejudge, .int x.eitem, .int x.evalue, .int x.eat, .int x.eknown]
abbrev Decision.pv (x : Decision) : PV := .agg x.enc
@[simp] theorem Decision.len (x : Decision) : x.enc.length = 14 := rfl
@[simp] theorem Decision.subAll (x : Decision) : sub x.enc 0 14 = some x.enc := rfl
@[simp] theorem Decision.get0 (x : Decision) : x.enc[0]? = some (.int x.no) := rfl
@[simp] theorem Decision.getE0 (x : Decision) (h : 0 < x.enc.length) : x.enc[0]'h = .int x.no := rfl
@[simp] theorem Decision.set0 (x : Decision) (v : Int) : List.set x.enc 0 (.int v) = (Decision.mk v x.known x.kind x.target x.value x.eno x.ekind x.eround x.eentry x.ejudge x.eitem x.evalue x.eat x.eknown).enc := rfl
@[simp] theorem Decision.get1 (x : Decision) : x.enc[1]? = some (.int x.known) := rfl
@[simp] theorem Decision.getE1 (x : Decision) (h : 1 < x.enc.length) : x.enc[1]'h = .int x.known := rfl
@[simp] theorem Decision.set1 (x : Decision) (v : Int) : List.set x.enc 1 (.int v) = (Decision.mk x.no v x.kind x.target x.value x.eno x.ekind x.eround x.eentry x.ejudge x.eitem x.evalue x.eat x.eknown).enc := rfl
@[simp] theorem Decision.get2 (x : Decision) : x.enc[2]? = some (.int x.kind) := rfl
@[simp] theorem Decision.getE2 (x : Decision) (h : 2 < x.enc.length) : x.enc[2]'h = .int x.kind := rfl
@[simp] theorem Decision.set2 (x : Decision) (v : Int) : List.set x.enc 2 (.int v) = (Decision.mk x.no x.known v x.target x.value x.eno x.ekind x.eround x.eentry x.ejudge x.eitem x.evalue x.eat x.eknown).enc := rfl
@[simp] theorem Decision.get3 (x : Decision) : x.enc[3]? = some (.int x.target) := rfl
@[simp] theorem Decision.getE3 (x : Decision) (h : 3 < x.enc.length) : x.enc[3]'h = .int x.target := rfl
@[simp] theorem Decision.set3 (x : Decision) (v : Int) : List.set x.enc 3 (.int v) = (Decision.mk x.no x.known x.kind v x.value x.eno x.ekind x.eround x.eentry x.ejudge x.eitem x.evalue x.eat x.eknown).enc := rfl
@[simp] theorem Decision.get4 (x : Decision) : x.enc[4]? = some (.int x.value) := rfl
@[simp] theorem Decision.getE4 (x : Decision) (h : 4 < x.enc.length) : x.enc[4]'h = .int x.value := rfl
@[simp] theorem Decision.set4 (x : Decision) (v : Int) : List.set x.enc 4 (.int v) = (Decision.mk x.no x.known x.kind x.target v x.eno x.ekind x.eround x.eentry x.ejudge x.eitem x.evalue x.eat x.eknown).enc := rfl
@[simp] theorem Decision.get5 (x : Decision) : x.enc[5]? = some (.int x.eno) := rfl
@[simp] theorem Decision.getE5 (x : Decision) (h : 5 < x.enc.length) : x.enc[5]'h = .int x.eno := rfl
@[simp] theorem Decision.set5 (x : Decision) (v : Int) : List.set x.enc 5 (.int v) = (Decision.mk x.no x.known x.kind x.target x.value v x.ekind x.eround x.eentry x.ejudge x.eitem x.evalue x.eat x.eknown).enc := rfl
@[simp] theorem Decision.get6 (x : Decision) : x.enc[6]? = some (.int x.ekind) := rfl
@[simp] theorem Decision.getE6 (x : Decision) (h : 6 < x.enc.length) : x.enc[6]'h = .int x.ekind := rfl
@[simp] theorem Decision.set6 (x : Decision) (v : Int) : List.set x.enc 6 (.int v) = (Decision.mk x.no x.known x.kind x.target x.value x.eno v x.eround x.eentry x.ejudge x.eitem x.evalue x.eat x.eknown).enc := rfl
@[simp] theorem Decision.get7 (x : Decision) : x.enc[7]? = some (.int x.eround) := rfl
@[simp] theorem Decision.getE7 (x : Decision) (h : 7 < x.enc.length) : x.enc[7]'h = .int x.eround := rfl
@[simp] theorem Decision.set7 (x : Decision) (v : Int) : List.set x.enc 7 (.int v) = (Decision.mk x.no x.known x.kind x.target x.value x.eno x.ekind v x.eentry x.ejudge x.eitem x.evalue x.eat x.eknown).enc := rfl
@[simp] theorem Decision.get8 (x : Decision) : x.enc[8]? = some (.int x.eentry) := rfl
@[simp] theorem Decision.getE8 (x : Decision) (h : 8 < x.enc.length) : x.enc[8]'h = .int x.eentry := rfl
@[simp] theorem Decision.set8 (x : Decision) (v : Int) : List.set x.enc 8 (.int v) = (Decision.mk x.no x.known x.kind x.target x.value x.eno x.ekind x.eround v x.ejudge x.eitem x.evalue x.eat x.eknown).enc := rfl
@[simp] theorem Decision.get9 (x : Decision) : x.enc[9]? = some (.int x.ejudge) := rfl
@[simp] theorem Decision.getE9 (x : Decision) (h : 9 < x.enc.length) : x.enc[9]'h = .int x.ejudge := rfl
@[simp] theorem Decision.set9 (x : Decision) (v : Int) : List.set x.enc 9 (.int v) = (Decision.mk x.no x.known x.kind x.target x.value x.eno x.ekind x.eround x.eentry v x.eitem x.evalue x.eat x.eknown).enc := rfl
@[simp] theorem Decision.get10 (x : Decision) : x.enc[10]? = some (.int x.eitem) := rfl
@[simp] theorem Decision.getE10 (x : Decision) (h : 10 < x.enc.length) : x.enc[10]'h = .int x.eitem := rfl
@[simp] theorem Decision.set10 (x : Decision) (v : Int) : List.set x.enc 10 (.int v) = (Decision.mk x.no x.known x.kind x.target x.value x.eno x.ekind x.eround x.eentry x.ejudge v x.evalue x.eat x.eknown).enc := rfl
@[simp] theorem Decision.get11 (x : Decision) : x.enc[11]? = some (.int x.evalue) := rfl
@[simp] theorem Decision.getE11 (x : Decision) (h : 11 < x.enc.length) : x.enc[11]'h = .int x.evalue := rfl
@[simp] theorem Decision.set11 (x : Decision) (v : Int) : List.set x.enc 11 (.int v) = (Decision.mk x.no x.known x.kind x.target x.value x.eno x.ekind x.eround x.eentry x.ejudge x.eitem v x.eat x.eknown).enc := rfl
@[simp] theorem Decision.get12 (x : Decision) : x.enc[12]? = some (.int x.eat) := rfl
@[simp] theorem Decision.getE12 (x : Decision) (h : 12 < x.enc.length) : x.enc[12]'h = .int x.eat := rfl
@[simp] theorem Decision.set12 (x : Decision) (v : Int) : List.set x.enc 12 (.int v) = (Decision.mk x.no x.known x.kind x.target x.value x.eno x.ekind x.eround x.eentry x.ejudge x.eitem x.evalue v x.eknown).enc := rfl
@[simp] theorem Decision.get13 (x : Decision) : x.enc[13]? = some (.int x.eknown) := rfl
@[simp] theorem Decision.getE13 (x : Decision) (h : 13 < x.enc.length) : x.enc[13]'h = .int x.eknown := rfl
@[simp] theorem Decision.set13 (x : Decision) (v : Int) : List.set x.enc 13 (.int v) = (Decision.mk x.no x.known x.kind x.target x.value x.eno x.ekind x.eround x.eentry x.ejudge x.eitem x.evalue x.eat v).enc := rfl
@[simp] theorem Decision.fz (b : Nat) (o : PObj) (k : Nat) (x : Decision) : fzps b o k x.enc = x.enc := rfl
theorem Decision.fold (v0 v1 v2 v3 v4 v5 v6 v7 v8 v9 v10 v11 v12 v13 : Int) : [PV.int v0, PV.int v1, PV.int v2, PV.int v3, PV.int v4, PV.int v5, PV.int v6, PV.int v7, PV.int v8, PV.int v9, PV.int v10, PV.int v11, PV.int v12, PV.int v13] = (Decision.mk v0 v1 v2 v3 v4 v5 v6 v7 v8 v9 v10 v11 v12 v13).enc := rfl
@[simp] theorem Decision.fill (x y : Decision) : setCells x.enc 0 y.enc = y.enc := rfl
@[simp] theorem Decision.eq (x y : Decision) : eqCells [.int, .int, .int, .int, .int, .int, .int, .int, .int, .int, .int, .int, .int, .int] x.enc y.enc = some (decide (x = y)) := by
  simp [Decision.enc]
  cases x; cases y; simp [Decision.mk.injEq]
@[simp] theorem Decision.key (x : Decision) : PV.vals? x.enc = some [.int .i64 x.no, .int .i64 x.known, .int .i64 x.kind, .int .i64 x.target, .int .i64 x.value, .int .i64 x.eno, .int .i64 x.ekind, .int .i64 x.eround, .int .i64 x.eentry, .int .i64 x.ejudge, .int .i64 x.eitem, .int .i64 x.evalue, .int .i64 x.eat, .int .i64 x.eknown] := rfl
def Decision.row (l : List Decision) : List PV := l.flatMap Decision.enc
abbrev Decision.lst (t : Bool) (l : List Decision) : PV := .list t (Decision.row l) l.length
@[simp] theorem Decision.row_len (l : List Decision) : (Decision.row l).length = l.length * 14 := flat_length Decision.enc 14 Decision.len l
@[simp] theorem Decision.row_nil : Decision.row [] = [] := rfl
@[simp] theorem Decision.row_cons (x : Decision) (l : List Decision) : Decision.row (x :: l) = x.enc ++ Decision.row l := rfl
theorem Decision.row_append (l m : List Decision) : Decision.row (l ++ m) = Decision.row l ++ Decision.row m := by simp [Decision.row]
@[simp] theorem Decision.row_eq_nil (l : List Decision) : Decision.row l = [] ↔ l = [] := by
  constructor
  · intro h
    have := congrArg List.length h
    rw [Decision.row_len] at this
    cases l with
    | nil => rfl
    | cons => simp at this
  · rintro rfl; rfl
@[simp] theorem Decision.row_sub (l : List Decision) (i : Nat) (h : i < l.length) : sub (Decision.row l) (i * 14) 14 = some (l[i]).enc := flat_sub Decision.enc 14 Decision.len l i h
theorem Decision.row_drop (l : List Decision) (i : Nat) : (Decision.row l).drop (i * 14) = Decision.row (l.drop i) := flat_drop Decision.enc 14 Decision.len l i
theorem Decision.row_take (l : List Decision) (i : Nat) : (Decision.row l).take (i * 14) = Decision.row (l.take i) := flat_take Decision.enc 14 Decision.len l i
@[simp] theorem Decision.row_getE0 (l : List Decision) (i : Nat) (h : i * 14 < (Decision.row l).length) : (Decision.row l)[i * 14]'h = .int (l[i]'(by rw [Decision.row_len] at h; omega)).no := by
  have hl : i < l.length := by rw [Decision.row_len] at h; omega
  have := flat_get Decision.enc 14 Decision.len l i 0 hl (by omega)
  have h2 : (Decision.row l)[i * 14]? = some (.int l[i].no) := this
  rw [List.getElem?_eq_getElem h] at h2
  exact Option.some.inj h2
@[simp] theorem Decision.row_get0 (l : List Decision) (i : Nat) (h : i < l.length) : (Decision.row l)[i * 14]? = some (.int l[i].no) := flat_get Decision.enc 14 Decision.len l i 0 h (by omega)
@[simp] theorem Decision.row_getE1 (l : List Decision) (i : Nat) (h : i * 14 + 1 < (Decision.row l).length) : (Decision.row l)[i * 14 + 1]'h = .int (l[i]'(by rw [Decision.row_len] at h; omega)).known := by
  have hl : i < l.length := by rw [Decision.row_len] at h; omega
  have := flat_get Decision.enc 14 Decision.len l i 1 hl (by omega)
  have h2 : (Decision.row l)[i * 14 + 1]? = some (.int l[i].known) := this
  rw [List.getElem?_eq_getElem h] at h2
  exact Option.some.inj h2
@[simp] theorem Decision.row_get1 (l : List Decision) (i : Nat) (h : i < l.length) : (Decision.row l)[i * 14 + 1]? = some (.int l[i].known) := flat_get Decision.enc 14 Decision.len l i 1 h (by omega)
@[simp] theorem Decision.row_getE2 (l : List Decision) (i : Nat) (h : i * 14 + 2 < (Decision.row l).length) : (Decision.row l)[i * 14 + 2]'h = .int (l[i]'(by rw [Decision.row_len] at h; omega)).kind := by
  have hl : i < l.length := by rw [Decision.row_len] at h; omega
  have := flat_get Decision.enc 14 Decision.len l i 2 hl (by omega)
  have h2 : (Decision.row l)[i * 14 + 2]? = some (.int l[i].kind) := this
  rw [List.getElem?_eq_getElem h] at h2
  exact Option.some.inj h2
@[simp] theorem Decision.row_get2 (l : List Decision) (i : Nat) (h : i < l.length) : (Decision.row l)[i * 14 + 2]? = some (.int l[i].kind) := flat_get Decision.enc 14 Decision.len l i 2 h (by omega)
@[simp] theorem Decision.row_getE3 (l : List Decision) (i : Nat) (h : i * 14 + 3 < (Decision.row l).length) : (Decision.row l)[i * 14 + 3]'h = .int (l[i]'(by rw [Decision.row_len] at h; omega)).target := by
  have hl : i < l.length := by rw [Decision.row_len] at h; omega
  have := flat_get Decision.enc 14 Decision.len l i 3 hl (by omega)
  have h2 : (Decision.row l)[i * 14 + 3]? = some (.int l[i].target) := this
  rw [List.getElem?_eq_getElem h] at h2
  exact Option.some.inj h2
@[simp] theorem Decision.row_get3 (l : List Decision) (i : Nat) (h : i < l.length) : (Decision.row l)[i * 14 + 3]? = some (.int l[i].target) := flat_get Decision.enc 14 Decision.len l i 3 h (by omega)
@[simp] theorem Decision.row_getE4 (l : List Decision) (i : Nat) (h : i * 14 + 4 < (Decision.row l).length) : (Decision.row l)[i * 14 + 4]'h = .int (l[i]'(by rw [Decision.row_len] at h; omega)).value := by
  have hl : i < l.length := by rw [Decision.row_len] at h; omega
  have := flat_get Decision.enc 14 Decision.len l i 4 hl (by omega)
  have h2 : (Decision.row l)[i * 14 + 4]? = some (.int l[i].value) := this
  rw [List.getElem?_eq_getElem h] at h2
  exact Option.some.inj h2
@[simp] theorem Decision.row_get4 (l : List Decision) (i : Nat) (h : i < l.length) : (Decision.row l)[i * 14 + 4]? = some (.int l[i].value) := flat_get Decision.enc 14 Decision.len l i 4 h (by omega)
@[simp] theorem Decision.row_getE5 (l : List Decision) (i : Nat) (h : i * 14 + 5 < (Decision.row l).length) : (Decision.row l)[i * 14 + 5]'h = .int (l[i]'(by rw [Decision.row_len] at h; omega)).eno := by
  have hl : i < l.length := by rw [Decision.row_len] at h; omega
  have := flat_get Decision.enc 14 Decision.len l i 5 hl (by omega)
  have h2 : (Decision.row l)[i * 14 + 5]? = some (.int l[i].eno) := this
  rw [List.getElem?_eq_getElem h] at h2
  exact Option.some.inj h2
@[simp] theorem Decision.row_get5 (l : List Decision) (i : Nat) (h : i < l.length) : (Decision.row l)[i * 14 + 5]? = some (.int l[i].eno) := flat_get Decision.enc 14 Decision.len l i 5 h (by omega)
@[simp] theorem Decision.row_getE6 (l : List Decision) (i : Nat) (h : i * 14 + 6 < (Decision.row l).length) : (Decision.row l)[i * 14 + 6]'h = .int (l[i]'(by rw [Decision.row_len] at h; omega)).ekind := by
  have hl : i < l.length := by rw [Decision.row_len] at h; omega
  have := flat_get Decision.enc 14 Decision.len l i 6 hl (by omega)
  have h2 : (Decision.row l)[i * 14 + 6]? = some (.int l[i].ekind) := this
  rw [List.getElem?_eq_getElem h] at h2
  exact Option.some.inj h2
@[simp] theorem Decision.row_get6 (l : List Decision) (i : Nat) (h : i < l.length) : (Decision.row l)[i * 14 + 6]? = some (.int l[i].ekind) := flat_get Decision.enc 14 Decision.len l i 6 h (by omega)
@[simp] theorem Decision.row_getE7 (l : List Decision) (i : Nat) (h : i * 14 + 7 < (Decision.row l).length) : (Decision.row l)[i * 14 + 7]'h = .int (l[i]'(by rw [Decision.row_len] at h; omega)).eround := by
  have hl : i < l.length := by rw [Decision.row_len] at h; omega
  have := flat_get Decision.enc 14 Decision.len l i 7 hl (by omega)
  have h2 : (Decision.row l)[i * 14 + 7]? = some (.int l[i].eround) := this
  rw [List.getElem?_eq_getElem h] at h2
  exact Option.some.inj h2
@[simp] theorem Decision.row_get7 (l : List Decision) (i : Nat) (h : i < l.length) : (Decision.row l)[i * 14 + 7]? = some (.int l[i].eround) := flat_get Decision.enc 14 Decision.len l i 7 h (by omega)
@[simp] theorem Decision.row_getE8 (l : List Decision) (i : Nat) (h : i * 14 + 8 < (Decision.row l).length) : (Decision.row l)[i * 14 + 8]'h = .int (l[i]'(by rw [Decision.row_len] at h; omega)).eentry := by
  have hl : i < l.length := by rw [Decision.row_len] at h; omega
  have := flat_get Decision.enc 14 Decision.len l i 8 hl (by omega)
  have h2 : (Decision.row l)[i * 14 + 8]? = some (.int l[i].eentry) := this
  rw [List.getElem?_eq_getElem h] at h2
  exact Option.some.inj h2
@[simp] theorem Decision.row_get8 (l : List Decision) (i : Nat) (h : i < l.length) : (Decision.row l)[i * 14 + 8]? = some (.int l[i].eentry) := flat_get Decision.enc 14 Decision.len l i 8 h (by omega)
@[simp] theorem Decision.row_getE9 (l : List Decision) (i : Nat) (h : i * 14 + 9 < (Decision.row l).length) : (Decision.row l)[i * 14 + 9]'h = .int (l[i]'(by rw [Decision.row_len] at h; omega)).ejudge := by
  have hl : i < l.length := by rw [Decision.row_len] at h; omega
  have := flat_get Decision.enc 14 Decision.len l i 9 hl (by omega)
  have h2 : (Decision.row l)[i * 14 + 9]? = some (.int l[i].ejudge) := this
  rw [List.getElem?_eq_getElem h] at h2
  exact Option.some.inj h2
@[simp] theorem Decision.row_get9 (l : List Decision) (i : Nat) (h : i < l.length) : (Decision.row l)[i * 14 + 9]? = some (.int l[i].ejudge) := flat_get Decision.enc 14 Decision.len l i 9 h (by omega)
@[simp] theorem Decision.row_getE10 (l : List Decision) (i : Nat) (h : i * 14 + 10 < (Decision.row l).length) : (Decision.row l)[i * 14 + 10]'h = .int (l[i]'(by rw [Decision.row_len] at h; omega)).eitem := by
  have hl : i < l.length := by rw [Decision.row_len] at h; omega
  have := flat_get Decision.enc 14 Decision.len l i 10 hl (by omega)
  have h2 : (Decision.row l)[i * 14 + 10]? = some (.int l[i].eitem) := this
  rw [List.getElem?_eq_getElem h] at h2
  exact Option.some.inj h2
@[simp] theorem Decision.row_get10 (l : List Decision) (i : Nat) (h : i < l.length) : (Decision.row l)[i * 14 + 10]? = some (.int l[i].eitem) := flat_get Decision.enc 14 Decision.len l i 10 h (by omega)
@[simp] theorem Decision.row_getE11 (l : List Decision) (i : Nat) (h : i * 14 + 11 < (Decision.row l).length) : (Decision.row l)[i * 14 + 11]'h = .int (l[i]'(by rw [Decision.row_len] at h; omega)).evalue := by
  have hl : i < l.length := by rw [Decision.row_len] at h; omega
  have := flat_get Decision.enc 14 Decision.len l i 11 hl (by omega)
  have h2 : (Decision.row l)[i * 14 + 11]? = some (.int l[i].evalue) := this
  rw [List.getElem?_eq_getElem h] at h2
  exact Option.some.inj h2
@[simp] theorem Decision.row_get11 (l : List Decision) (i : Nat) (h : i < l.length) : (Decision.row l)[i * 14 + 11]? = some (.int l[i].evalue) := flat_get Decision.enc 14 Decision.len l i 11 h (by omega)
@[simp] theorem Decision.row_getE12 (l : List Decision) (i : Nat) (h : i * 14 + 12 < (Decision.row l).length) : (Decision.row l)[i * 14 + 12]'h = .int (l[i]'(by rw [Decision.row_len] at h; omega)).eat := by
  have hl : i < l.length := by rw [Decision.row_len] at h; omega
  have := flat_get Decision.enc 14 Decision.len l i 12 hl (by omega)
  have h2 : (Decision.row l)[i * 14 + 12]? = some (.int l[i].eat) := this
  rw [List.getElem?_eq_getElem h] at h2
  exact Option.some.inj h2
@[simp] theorem Decision.row_get12 (l : List Decision) (i : Nat) (h : i < l.length) : (Decision.row l)[i * 14 + 12]? = some (.int l[i].eat) := flat_get Decision.enc 14 Decision.len l i 12 h (by omega)
@[simp] theorem Decision.row_getE13 (l : List Decision) (i : Nat) (h : i * 14 + 13 < (Decision.row l).length) : (Decision.row l)[i * 14 + 13]'h = .int (l[i]'(by rw [Decision.row_len] at h; omega)).eknown := by
  have hl : i < l.length := by rw [Decision.row_len] at h; omega
  have := flat_get Decision.enc 14 Decision.len l i 13 hl (by omega)
  have h2 : (Decision.row l)[i * 14 + 13]? = some (.int l[i].eknown) := this
  rw [List.getElem?_eq_getElem h] at h2
  exact Option.some.inj h2
@[simp] theorem Decision.row_get13 (l : List Decision) (i : Nat) (h : i < l.length) : (Decision.row l)[i * 14 + 13]? = some (.int l[i].eknown) := flat_get Decision.enc 14 Decision.len l i 13 h (by omega)
theorem Decision.row_set (l : List Decision) (i : Nat) (x : Decision) (h : i < l.length) : setCells (Decision.row l) (i * 14) x.enc = Decision.row (l.set i x) := flat_set Decision.enc 14 Decision.len l i x h
theorem Decision.row_fz (b : Nat) (o : PObj) (k : Nat) (l : List Decision) : fzps b o k (Decision.row l) = Decision.row l := flat_fz Decision.enc Decision.fz b o k l
attribute [simp] Decision.row_fz

abbrev Decision.event (d : Decision) : Event := ⟨d.eno, d.ekind, d.eround, d.eentry, d.ejudge, d.eitem, d.evalue, d.eat, d.eknown⟩
@[simp] theorem Decision.subEv (d : Decision) : sub d.enc 5 9 = some d.event.enc := rfl

def btw (n lo hi : Int) : Bool := decide (lo ≤ n) && decide (n ≤ hi)
theorem between_spec (n lo hi : Int) (st : Store) : Rets P F.record_between [.int n, .int lo, .int hi] st (.bool (btw n lo hi)) := by
  refine H.record_between.pure hmix rfl rfl ?_
  simp -dsimp -implicitDefEqProofs
  simp [btw]; grind
def itemOK (e : Event) : Bool := btw e.item 0 63 && btw e.value 0 1000
theorem kinds1_spec (e : Event) (st : Store) : Rets P F.record_kinds_1 [e.pv] st (.bool (itemOK e)) := by
  refine H.record_kinds_1.pure hmix rfl rfl ?_
  repeat' (first
    | (with_reducible refine Fresh.intro fun b hb => ?_) <;> (try simp -dsimp -implicitDefEqProofs [*] at hb)
    | (with_reducible refine Rets.xcall (between_spec ..) ?_)
    | (with_reducible refine Rets.xsoft (between_spec ..) ?_)
    | (with_reducible refine xlateCall_of (fun _ => between_spec ..) ?_)
    | (with_reducible refine Lit.imm ?_)
    | ((with_reducible refine Grow.intro ?_ fun b cap hb hc1 hc2 => ?_); omega) <;> (try simp -dsimp -implicitDefEqProofs [*] at hb)
    | (with_reducible refine RetView.nil2 ?_)
    | (with_reducible refine RetView.nil1 ?_)
    | (with_reducible refine RetView.loose2 (t := true) ?_)
    | (with_reducible refine RetView.loose1 (t := true) ?_)
    | (with_reducible refine RetView.fz 1 ?_ ?_)
    | (with_reducible refine RetView.same ?_)
    | (with_reducible refine DrawLate.intro [] ?_)
    | (with_reducible refine Cls_and ?_ ?_)
    | (with_reducible exact Cls.self _ _)
    | (with_reducible refine Cls_same ?_)
    | (with_reducible refine Cls_in ?_ ?_)
    | (with_reducible refine Cls_fresh ?_ ?_)
    | (with_reducible refine And.intro (fun h => ?_) (fun h => ?_)) <;> (try (exfalso; omega))
    | (with_reducible refine And.intro (fun h => ?_) ?_) <;> (try (exfalso; omega))
    | ((with_reducible refine and_keep ?_ fun hk => ?_); omega)
    | (simp -dsimp -implicitDefEqProofs [*]))
  all_goals simp_all [itemOK]
def pvK1 : PV := .func (.func F.record_kinds_1) [] []
theorem kinds2_spec (e : Event) (st : Store) : Rets P F.record_kinds_2 [e.pv, .iptr [pvK1] 0] st (.bool (e.judge == 0 && itemOK e)) := by
  refine H.record_kinds_2.pure hmix rfl rfl ?_
  repeat' (first
    | (with_reducible refine Fresh.intro fun b hb => ?_) <;> (try simp -dsimp -implicitDefEqProofs [*] at hb)
    | (with_reducible refine Rets.xcall (kinds1_spec e _) ?_)
    | (with_reducible refine Rets.xsoft (kinds1_spec e _) ?_)
    | (with_reducible refine xlateCall_of (fun _ => kinds1_spec e _) ?_)
    | (with_reducible refine Lit.imm ?_)
    | ((with_reducible refine Grow.intro ?_ fun b cap hb hc1 hc2 => ?_); omega) <;> (try simp -dsimp -implicitDefEqProofs [*] at hb)
    | (with_reducible refine RetView.nil2 ?_)
    | (with_reducible refine RetView.nil1 ?_)
    | (with_reducible refine RetView.loose2 (t := true) ?_)
    | (with_reducible refine RetView.loose1 (t := true) ?_)
    | (with_reducible refine RetView.fz 1 ?_ ?_)
    | (with_reducible refine RetView.same ?_)
    | (with_reducible refine DrawLate.intro [] ?_)
    | (with_reducible refine Cls_and ?_ ?_)
    | (with_reducible exact Cls.self _ _)
    | (with_reducible refine Cls_same ?_)
    | (with_reducible refine Cls_in ?_ ?_)
    | (with_reducible refine Cls_fresh ?_ ?_)
    | (with_reducible refine And.intro (fun h => ?_) (fun h => ?_)) <;> (try (exfalso; omega))
    | (with_reducible refine And.intro (fun h => ?_) ?_) <;> (try (exfalso; omega))
    | ((with_reducible refine and_keep ?_ fun hk => ?_); omega)
    | (simp -dsimp -implicitDefEqProofs [pvK1, *]))
  all_goals (try simp_all [itemOK])
theorem kinds3_spec (e : Event) (st : Store) : Rets P F.record_kinds_3 [e.pv, .iptr [pvK1] 0] st (.bool (btw e.judge 0 255 && itemOK e)) := by
  refine H.record_kinds_3.pure hmix rfl rfl ?_
  repeat' (first
    | (with_reducible refine Fresh.intro fun b hb => ?_) <;> (try simp -dsimp -implicitDefEqProofs [*] at hb)
    | (with_reducible refine Rets.xcall (between_spec ..) ?_)
    | (with_reducible refine Rets.xsoft (between_spec ..) ?_)
    | (with_reducible refine xlateCall_of (fun _ => between_spec ..) ?_)
    | (with_reducible refine Rets.xcall (kinds1_spec e _) ?_)
    | (with_reducible refine Rets.xsoft (kinds1_spec e _) ?_)
    | (with_reducible refine xlateCall_of (fun _ => kinds1_spec e _) ?_)
    | (with_reducible refine Lit.imm ?_)
    | ((with_reducible refine Grow.intro ?_ fun b cap hb hc1 hc2 => ?_); omega) <;> (try simp -dsimp -implicitDefEqProofs [*] at hb)
    | (with_reducible refine RetView.nil2 ?_)
    | (with_reducible refine RetView.nil1 ?_)
    | (with_reducible refine RetView.loose2 (t := true) ?_)
    | (with_reducible refine RetView.loose1 (t := true) ?_)
    | (with_reducible refine RetView.fz 1 ?_ ?_)
    | (with_reducible refine RetView.same ?_)
    | (with_reducible refine DrawLate.intro [] ?_)
    | (with_reducible refine Cls_and ?_ ?_)
    | (with_reducible exact Cls.self _ _)
    | (with_reducible refine Cls_same ?_)
    | (with_reducible refine Cls_in ?_ ?_)
    | (with_reducible refine Cls_fresh ?_ ?_)
    | (with_reducible refine And.intro (fun h => ?_) (fun h => ?_)) <;> (try (exfalso; omega))
    | (with_reducible refine And.intro (fun h => ?_) ?_) <;> (try (exfalso; omega))
    | ((with_reducible refine and_keep ?_ fun hk => ?_); omega)
    | (simp -dsimp -implicitDefEqProofs [pvK1, *]))
  all_goals (try simp_all [itemOK])
theorem kinds4_spec (e : Event) (st : Store) : Rets P F.record_kinds_4 [e.pv] st (.bool (e.judge == 0 && e.item == 0 && btw e.value 0 1)) := by
  refine H.record_kinds_4.pure hmix rfl rfl ?_
  repeat' (first
    | (with_reducible refine Fresh.intro fun b hb => ?_) <;> (try simp -dsimp -implicitDefEqProofs [*] at hb)
    | (with_reducible refine Rets.xcall (between_spec ..) ?_)
    | (with_reducible refine Rets.xsoft (between_spec ..) ?_)
    | (with_reducible refine xlateCall_of (fun _ => between_spec ..) ?_)
    | (with_reducible refine Lit.imm ?_)
    | ((with_reducible refine Grow.intro ?_ fun b cap hb hc1 hc2 => ?_); omega) <;> (try simp -dsimp -implicitDefEqProofs [*] at hb)
    | (with_reducible refine RetView.nil2 ?_)
    | (with_reducible refine RetView.nil1 ?_)
    | (with_reducible refine RetView.loose2 (t := true) ?_)
    | (with_reducible refine RetView.loose1 (t := true) ?_)
    | (with_reducible refine RetView.fz 1 ?_ ?_)
    | (with_reducible refine RetView.same ?_)
    | (with_reducible refine DrawLate.intro [] ?_)
    | (with_reducible refine Cls_and ?_ ?_)
    | (with_reducible exact Cls.self _ _)
    | (with_reducible refine Cls_same ?_)
    | (with_reducible refine Cls_in ?_ ?_)
    | (with_reducible refine Cls_fresh ?_ ?_)
    | (with_reducible refine And.intro (fun h => ?_) (fun h => ?_)) <;> (try (exfalso; omega))
    | (with_reducible refine And.intro (fun h => ?_) ?_) <;> (try (exfalso; omega))
    | ((with_reducible refine and_keep ?_ fun hk => ?_); omega)
    | (simp -dsimp -implicitDefEqProofs [*]))
  all_goals (try simp_all [itemOK])
def kv (f : FuncId) (cap : List PV) : PV := .agg [.func (.func f) [] cap]
def pvKinds : PV := .imap [.int .i64 1, .int .i64 2, .int .i64 3, .int .i64 4]
  [kv F.record_kinds_3 [.iptr [pvK1] 0], kv F.record_kinds_2 [.iptr [pvK1] 0], kv F.record_kinds_2 [.iptr [pvK1] 0], kv F.record_kinds_4 []]
theorem kinds_spec (st : Store) : Rets P F.record_kinds [] st pvKinds := by
  refine H.record_kinds.view hmix rfl rfl ?_
  repeat' (first
    | (with_reducible refine Fresh.intro fun b hb => ?_) <;> (try simp -dsimp -implicitDefEqProofs [*] at hb)
    | (with_reducible refine Lit.imm ?_)
    | ((with_reducible refine Grow.intro ?_ fun b cap hb hc1 hc2 => ?_); omega) <;> (try simp -dsimp -implicitDefEqProofs [*] at hb)
    | (with_reducible refine RetView.nil2 ?_)
    | (with_reducible refine RetView.nil1 ?_)
    | (with_reducible refine RetView.loose2 (t := true) ?_)
    | (with_reducible refine RetView.loose1 (t := true) ?_)
    | (with_reducible refine RetView.fz 1 ?_ ?_)
    | (with_reducible refine RetView.same ?_)
    | (with_reducible refine DrawLate.intro [] ?_)
    | (with_reducible refine Cls_and ?_ ?_)
    | (with_reducible exact Cls.self _ _)
    | (with_reducible refine Cls_same ?_)
    | (with_reducible refine Cls_in ?_ ?_)
    | (with_reducible refine Cls_fresh ?_ ?_)
    | (with_reducible refine And.intro (fun h => ?_) (fun h => ?_)) <;> (try (exfalso; omega))
    | (with_reducible refine And.intro (fun h => ?_) ?_) <;> (try (exfalso; omega))
    | ((with_reducible refine and_keep ?_ fun hk => ?_); omega)
    | (simp -dsimp -implicitDefEqProofs [pvKinds, kv, pvK1, *]))
def rightE (e : Event) : Bool :=
  (btw e.no 0 1048576 && btw e.round 0 7 && btw e.entry 0 4095) && (btw e.at' 0 2097151 && btw e.known 0 2097151) &&
  (if e.kind = 1 then btw e.judge 0 255 && itemOK e else if e.kind = 2 ∨ e.kind = 3 then e.judge == 0 && itemOK e else if e.kind = 4 then e.judge == 0 && e.item == 0 && btw e.value 0 1 else false)
theorem right_spec (e : Event) (st : Store) : Rets P F.record_right [e.pv, pvKinds] st (.bool (rightE e)) := by
  refine H.record_right.pure hmix rfl rfl ?_
  repeat' (first
    | (with_reducible refine Fresh.intro fun b hb => ?_) <;> (try simp -dsimp -implicitDefEqProofs [*] at hb)
    | (with_reducible refine Rets.xcall (between_spec ..) ?_)
    | (with_reducible refine Rets.xsoft (between_spec ..) ?_)
    | (with_reducible refine xlateCall_of (fun _ => between_spec ..) ?_)
    | (with_reducible refine Rets.xcall (kinds2_spec e _) ?_)
    | (with_reducible refine Rets.xsoft (kinds2_spec e _) ?_)
    | (with_reducible refine xlateCall_of (fun _ => kinds2_spec e _) ?_)
    | (with_reducible refine Rets.xcall (kinds3_spec e _) ?_)
    | (with_reducible refine Rets.xsoft (kinds3_spec e _) ?_)
    | (with_reducible refine xlateCall_of (fun _ => kinds3_spec e _) ?_)
    | (with_reducible refine Rets.xcall (kinds4_spec e _) ?_)
    | (with_reducible refine Rets.xsoft (kinds4_spec e _) ?_)
    | (with_reducible refine xlateCall_of (fun _ => kinds4_spec e _) ?_)
    | (with_reducible refine Lit.imm ?_)
    | ((with_reducible refine Grow.intro ?_ fun b cap hb hc1 hc2 => ?_); omega) <;> (try simp -dsimp -implicitDefEqProofs [*] at hb)
    | (with_reducible refine RetView.nil2 ?_)
    | (with_reducible refine RetView.nil1 ?_)
    | (with_reducible refine RetView.loose2 (t := true) ?_)
    | (with_reducible refine RetView.loose1 (t := true) ?_)
    | (with_reducible refine RetView.fz 1 ?_ ?_)
    | (with_reducible refine RetView.same ?_)
    | (with_reducible refine DrawLate.intro [] ?_)
    | (with_reducible refine Cls_and ?_ ?_)
    | (with_reducible exact Cls.self _ _)
    | (with_reducible refine Cls_same ?_)
    | (with_reducible refine Cls_in ?_ ?_)
    | (with_reducible refine Cls_fresh ?_ ?_)
    | (with_reducible refine And.intro (fun h => ?_) (fun h => ?_)) <;> (try (exfalso; omega))
    | (with_reducible refine And.intro (fun h => ?_) ?_) <;> (try (exfalso; omega))
    | ((with_reducible refine and_keep ?_ fun hk => ?_); omega)
    | (simp -dsimp -implicitDefEqProofs [pvKinds, kv, *]))
  all_goals simp_all [rightE]
end Go.Proofs.Ythkjdppifnmakaa
