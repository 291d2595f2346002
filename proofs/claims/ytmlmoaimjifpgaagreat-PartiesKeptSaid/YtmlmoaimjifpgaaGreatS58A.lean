/- The record's kinds of events: small functions. -/
import Derived.Test.YtmlmoaimjifpgaaGreatCode
import Derived.Test.YtmlmoaimjifpgaaGreatLLo
import Derived.Test.YtmlmoaimjifpgaaGreatLVf
namespace Go.Proofs.YtmlmoaimjifpgaaGreat
open Go.Pv
set_option maxRecDepth 100000
structure Event where
 no : Int
 kind : Int
 round : Int
 entry : Int
 judge : Int
 item : Int
 value : Int
 at' : Int
 known : Int
 deriving DecidableEq, Inhabited
def Event.enc (x : Event) : List PV := [.int x.no, .int x.kind, .int x.round, .int x.entry, .int x.judge, .int x.item, .int x.value, .int x.at', .int x.known]
abbrev Event.pv (x : Event) : PV := .agg x.enc
@[simp] theorem Event.len (x : Event) : x.enc.length = 9 := rfl
@[simp] theorem Event.subAll (x : Event) : sub x.enc 0 9 = some x.enc := rfl
@[simp] theorem Event.get0 (x : Event) : x.enc[0]? = some (.int x.no) := rfl
@[simp] theorem Event.getE0 (x : Event) (h : 0 < x.enc.length) : x.enc[0]'h = .int x.no := rfl
@[simp] theorem Event.set0 (x : Event) (v : Int) : List.set x.enc 0 (.int v) = (Event.mk v x.kind x.round x.entry x.judge x.item x.value x.at' x.known).enc := rfl
@[simp] theorem Event.get1 (x : Event) : x.enc[1]? = some (.int x.kind) := rfl
@[simp] theorem Event.getE1 (x : Event) (h : 1 < x.enc.length) : x.enc[1]'h = .int x.kind := rfl
@[simp] theorem Event.set1 (x : Event) (v : Int) : List.set x.enc 1 (.int v) = (Event.mk x.no v x.round x.entry x.judge x.item x.value x.at' x.known).enc := rfl
@[simp] theorem Event.get2 (x : Event) : x.enc[2]? = some (.int x.round) := rfl
@[simp] theorem Event.getE2 (x : Event) (h : 2 < x.enc.length) : x.enc[2]'h = .int x.round := rfl
@[simp] theorem Event.set2 (x : Event) (v : Int) : List.set x.enc 2 (.int v) = (Event.mk x.no x.kind v x.entry x.judge x.item x.value x.at' x.known).enc := rfl
@[simp] theorem Event.get3 (x : Event) : x.enc[3]? = some (.int x.entry) := rfl
@[simp] theorem Event.getE3 (x : Event) (h : 3 < x.enc.length) : x.enc[3]'h = .int x.entry := rfl
@[simp] theorem Event.set3 (x : Event) (v : Int) : List.set x.enc 3 (.int v) = (Event.mk x.no x.kind x.round v x.judge x.item x.value x.at' x.known).enc := rfl
@[simp] theorem Event.get4 (x : Event) : x.enc[4]? = some (.int x.judge) := rfl
@[simp] theorem Event.getE4 (x : Event) (h : 4 < x.enc.length) : x.enc[4]'h = .int x.judge := rfl
@[simp] theorem Event.set4 (x : Event) (v : Int) : List.set x.enc 4 (.int v) = (Event.mk x.no x.kind x.round x.entry v x.item x.value x.at' x.known).enc := rfl
@[simp] theorem Event.get5 (x : Event) : x.enc[5]? = some (.int x.item) := rfl
@[simp] theorem Event.getE5 (x : Event) (h : 5 < x.enc.length) : x.enc[5]'h = .int x.item := rfl
@[simp] theorem Event.set5 (x : Event) (v : Int) : List.set x.enc 5 (.int v) = (Event.mk x.no x.kind x.round x.entry x.judge v x.value x.at' x.known).enc := rfl
@[simp] theorem Event.get6 (x : Event) : x.enc[6]? = some (.int x.value) := rfl
@[simp] theorem Event.getE6 (x : Event) (h : 6 < x.enc.length) : x.enc[6]'h = .int x.value := rfl
@[simp] theorem Event.set6 (x : Event) (v : Int) : List.set x.enc 6 (.int v) = (Event.mk x.no x.kind x.round x.entry x.judge x.item v x.at' x.known).enc := rfl
@[simp] theorem Event.get7 (x : Event) : x.enc[7]? = some (.int x.at') := rfl
@[simp] theorem Event.getE7 (x : Event) (h : 7 < x.enc.length) : x.enc[7]'h = .int x.at' := rfl
@[simp] theorem Event.set7 (x : Event) (v : Int) : List.set x.enc 7 (.int v) = (Event.mk x.no x.kind x.round x.entry x.judge x.item x.value v x.known).enc := rfl
@[simp] theorem Event.get8 (x : Event) : x.enc[8]? = some (.int x.known) := rfl
@[simp] theorem Event.getE8 (x : Event) (h : 8 < x.enc.length) : x.enc[8]'h = .int x.known := rfl
@[simp] theorem Event.set8 (x : Event) (v : Int) : List.set x.enc 8 (.int v) = (Event.mk x.no x.kind x.round x.entry x.judge x.item x.value x.at' v).enc := rfl
@[simp] theorem Event.fz (b : Nat) (o : PObj) (k : Nat) (x : Event) : k3s b o k x.enc = x.enc := rfl
@[simp] theorem Event.fill (x y : Event) : q47 x.enc 0 y.enc = y.enc := rfl
@[simp] theorem Event.eq (x y : Event) : q5z [.int, .int, .int, .int, .int, .int, .int, .int, .int] x.enc y.enc = some (decide (x = y)) := by
 simp [Event.enc]
 cases x; cases y; simp [Event.mk.injEq]
@[simp] theorem Event.key (x : Event) : PV.vals? x.enc = some [.int .i64 x.no, .int .i64 x.kind, .int .i64 x.round, .int .i64 x.entry, .int .i64 x.judge, .int .i64 x.item, .int .i64 x.value, .int .i64 x.at', .int .i64 x.known] := rfl
def Event.row (l : List Event) : List PV := l.flatMap Event.enc
abbrev Event.lst (t : Bool) (l : List Event) : PV := .list t (Event.row l) l.length
@[simp] theorem Event.row_len (l : List Event) : (Event.row l).length = l.length * 9 := q53 Event.enc 9 Event.len l
@[simp] theorem Event.row_nil : Event.row [] = [] := rfl
@[simp] theorem Event.row_cons (x : Event) (l : List Event) : Event.row (x :: l) = x.enc ++ Event.row l := rfl
theorem Event.row_append (l m : List Event) : Event.row (l ++ m) = Event.row l ++ Event.row m := by simp [Event.row]
@[simp] theorem Event.row_sub (l : List Event) (i : Nat) (h : i < l.length) : sub (Event.row l) (i * 9) 9 = some (l[i]).enc := q78 Event.enc 9 Event.len l i h
@[simp] theorem Event.row_getE0 (l : List Event) (i : Nat) (h : i * 9 < (Event.row l).length) : (Event.row l)[i * 9]'h = .int (l[i]'(by rw [Event.row_len] at h; omega)).no := by
 have hl : i < l.length := by rw [Event.row_len] at h; omega
 have := k7n Event.enc 9 Event.len l i 0 hl (by omega)
 have h2 : (Event.row l)[i * 9]? = some (.int l[i].no) := this
 rw [List.getElem?_eq_getElem h] at h2
 exact Option.some.inj h2
theorem Event.row_fz (b : Nat) (o : PObj) (k : Nat) (l : List Event) : k3s b o k (Event.row l) = Event.row l := z2i Event.enc Event.fz b o k l
attribute [simp] Event.row_fz
structure Decision where
 no : Int
 known : Int
 kind : Int
 target : Int
 value : Int
 eno : Int
 ekind : Int
 eround : Int
 eentry : Int
 ejudge : Int
 eitem : Int
 evalue : Int
 eat : Int
 eknown : Int
 deriving DecidableEq, Inhabited
def Decision.enc (x : Decision) : List PV := [.int x.no, .int x.known, .int x.kind, .int x.target, .int x.value, .int x.eno, .int x.ekind, .int x.eround, .int x.eentry, .int x.ejudge, .int x.eitem, .int x.evalue, .int x.eat, .int x.eknown]
abbrev Decision.pv (x : Decision) : PV := .agg x.enc
@[simp] theorem Decision.len (x : Decision) : x.enc.length = 14 := rfl
@[simp] theorem Decision.subAll (x : Decision) : sub x.enc 0 14 = some x.enc := rfl
@[simp] theorem Decision.get0 (x : Decision) : x.enc[0]? = some (.int x.no) := rfl
@[simp] theorem Decision.getE0 (x : Decision) (h : 0 < x.enc.length) : x.enc[0]'h = .int x.no := rfl
@[simp] theorem Decision.set0 (x : Decision) (v : Int) : List.set x.enc 0 (.int v) = (Decision.mk v x.known x.kind x.target x.value x.eno x.ekind x.eround x.eentry x.ejudge x.eitem x.evalue x.eat x.eknown).enc := rfl
@[simp] theorem Decision.get1 (x : Decision) : x.enc[1]? = some (.int x.known) := rfl
@[simp] theorem Decision.getE1 (x : Decision) (h : 1 < x.enc.length) : x.enc[1]'h = .int x.known := rfl
@[simp] theorem Decision.set1 (x : Decision) (v : Int) : List.set x.enc 1 (.int v) = (Decision.mk x.no v x.kind x.target x.value x.eno x.ekind x.eround x.eentry x.ejudge x.eitem x.evalue x.eat x.eknown).enc := rfl
@[simp] theorem Decision.get2 (x : Decision) : x.enc[2]? = some (.int x.kind) := rfl
@[simp] theorem Decision.getE2 (x : Decision) (h : 2 < x.enc.length) : x.enc[2]'h = .int x.kind := rfl
@[simp] theorem Decision.set2 (x : Decision) (v : Int) : List.set x.enc 2 (.int v) = (Decision.mk x.no x.known v x.target x.value x.eno x.ekind x.eround x.eentry x.ejudge x.eitem x.evalue x.eat x.eknown).enc := rfl
@[simp] theorem Decision.get3 (x : Decision) : x.enc[3]? = some (.int x.target) := rfl
@[simp] theorem Decision.getE3 (x : Decision) (h : 3 < x.enc.length) : x.enc[3]'h = .int x.target := rfl
@[simp] theorem Decision.set3 (x : Decision) (v : Int) : List.set x.enc 3 (.int v) = (Decision.mk x.no x.known x.kind v x.value x.eno x.ekind x.eround x.eentry x.ejudge x.eitem x.evalue x.eat x.eknown).enc := rfl
@[simp] theorem Decision.get4 (x : Decision) : x.enc[4]? = some (.int x.value) := rfl
@[simp] theorem Decision.getE4 (x : Decision) (h : 4 < x.enc.length) : x.enc[4]'h = .int x.value := rfl
@[simp] theorem Decision.set4 (x : Decision) (v : Int) : List.set x.enc 4 (.int v) = (Decision.mk x.no x.known x.kind x.target v x.eno x.ekind x.eround x.eentry x.ejudge x.eitem x.evalue x.eat x.eknown).enc := rfl
@[simp] theorem Decision.get5 (x : Decision) : x.enc[5]? = some (.int x.eno) := rfl
@[simp] theorem Decision.getE5 (x : Decision) (h : 5 < x.enc.length) : x.enc[5]'h = .int x.eno := rfl
@[simp] theorem Decision.set5 (x : Decision) (v : Int) : List.set x.enc 5 (.int v) = (Decision.mk x.no x.known x.kind x.target x.value v x.ekind x.eround x.eentry x.ejudge x.eitem x.evalue x.eat x.eknown).enc := rfl
@[simp] theorem Decision.get6 (x : Decision) : x.enc[6]? = some (.int x.ekind) := rfl
@[simp] theorem Decision.getE6 (x : Decision) (h : 6 < x.enc.length) : x.enc[6]'h = .int x.ekind := rfl
@[simp] theorem Decision.set6 (x : Decision) (v : Int) : List.set x.enc 6 (.int v) = (Decision.mk x.no x.known x.kind x.target x.value x.eno v x.eround x.eentry x.ejudge x.eitem x.evalue x.eat x.eknown).enc := rfl
@[simp] theorem Decision.get7 (x : Decision) : x.enc[7]? = some (.int x.eround) := rfl
@[simp] theorem Decision.getE7 (x : Decision) (h : 7 < x.enc.length) : x.enc[7]'h = .int x.eround := rfl
@[simp] theorem Decision.set7 (x : Decision) (v : Int) : List.set x.enc 7 (.int v) = (Decision.mk x.no x.known x.kind x.target x.value x.eno x.ekind v x.eentry x.ejudge x.eitem x.evalue x.eat x.eknown).enc := rfl
@[simp] theorem Decision.get8 (x : Decision) : x.enc[8]? = some (.int x.eentry) := rfl
@[simp] theorem Decision.getE8 (x : Decision) (h : 8 < x.enc.length) : x.enc[8]'h = .int x.eentry := rfl
@[simp] theorem Decision.set8 (x : Decision) (v : Int) : List.set x.enc 8 (.int v) = (Decision.mk x.no x.known x.kind x.target x.value x.eno x.ekind x.eround v x.ejudge x.eitem x.evalue x.eat x.eknown).enc := rfl
@[simp] theorem Decision.get9 (x : Decision) : x.enc[9]? = some (.int x.ejudge) := rfl
@[simp] theorem Decision.getE9 (x : Decision) (h : 9 < x.enc.length) : x.enc[9]'h = .int x.ejudge := rfl
@[simp] theorem Decision.set9 (x : Decision) (v : Int) : List.set x.enc 9 (.int v) = (Decision.mk x.no x.known x.kind x.target x.value x.eno x.ekind x.eround x.eentry v x.eitem x.evalue x.eat x.eknown).enc := rfl
@[simp] theorem Decision.get10 (x : Decision) : x.enc[10]? = some (.int x.eitem) := rfl
@[simp] theorem Decision.getE10 (x : Decision) (h : 10 < x.enc.length) : x.enc[10]'h = .int x.eitem := rfl
@[simp] theorem Decision.set10 (x : Decision) (v : Int) : List.set x.enc 10 (.int v) = (Decision.mk x.no x.known x.kind x.target x.value x.eno x.ekind x.eround x.eentry x.ejudge v x.evalue x.eat x.eknown).enc := rfl
@[simp] theorem Decision.get11 (x : Decision) : x.enc[11]? = some (.int x.evalue) := rfl
@[simp] theorem Decision.getE11 (x : Decision) (h : 11 < x.enc.length) : x.enc[11]'h = .int x.evalue := rfl
@[simp] theorem Decision.set11 (x : Decision) (v : Int) : List.set x.enc 11 (.int v) = (Decision.mk x.no x.known x.kind x.target x.value x.eno x.ekind x.eround x.eentry x.ejudge x.eitem v x.eat x.eknown).enc := rfl
@[simp] theorem Decision.get12 (x : Decision) : x.enc[12]? = some (.int x.eat) := rfl
@[simp] theorem Decision.getE12 (x : Decision) (h : 12 < x.enc.length) : x.enc[12]'h = .int x.eat := rfl
@[simp] theorem Decision.set12 (x : Decision) (v : Int) : List.set x.enc 12 (.int v) = (Decision.mk x.no x.known x.kind x.target x.value x.eno x.ekind x.eround x.eentry x.ejudge x.eitem x.evalue v x.eknown).enc := rfl
@[simp] theorem Decision.get13 (x : Decision) : x.enc[13]? = some (.int x.eknown) := rfl
@[simp] theorem Decision.getE13 (x : Decision) (h : 13 < x.enc.length) : x.enc[13]'h = .int x.eknown := rfl
@[simp] theorem Decision.set13 (x : Decision) (v : Int) : List.set x.enc 13 (.int v) = (Decision.mk x.no x.known x.kind x.target x.value x.eno x.ekind x.eround x.eentry x.ejudge x.eitem x.evalue x.eat v).enc := rfl
@[simp] theorem Decision.fz (b : Nat) (o : PObj) (k : Nat) (x : Decision) : k3s b o k x.enc = x.enc := rfl
@[simp] theorem Decision.fill (x y : Decision) : q47 x.enc 0 y.enc = y.enc := rfl
@[simp] theorem Decision.eq (x y : Decision) : q5z [.int, .int, .int, .int, .int, .int, .int, .int, .int, .int, .int, .int, .int, .int] x.enc y.enc = some (decide (x = y)) := by
 simp [Decision.enc]
 cases x; cases y; simp [Decision.mk.injEq]
@[simp] theorem Decision.key (x : Decision) : PV.vals? x.enc = some [.int .i64 x.no, .int .i64 x.known, .int .i64 x.kind, .int .i64 x.target, .int .i64 x.value, .int .i64 x.eno, .int .i64 x.ekind, .int .i64 x.eround, .int .i64 x.eentry, .int .i64 x.ejudge, .int .i64 x.eitem, .int .i64 x.evalue, .int .i64 x.eat, .int .i64 x.eknown] := rfl
def Decision.row (l : List Decision) : List PV := l.flatMap Decision.enc
abbrev Decision.lst (t : Bool) (l : List Decision) : PV := .list t (Decision.row l) l.length
@[simp] theorem Decision.row_len (l : List Decision) : (Decision.row l).length = l.length * 14 := q53 Decision.enc 14 Decision.len l
@[simp] theorem Decision.row_nil : Decision.row [] = [] := rfl
@[simp] theorem Decision.row_cons (x : Decision) (l : List Decision) : Decision.row (x :: l) = x.enc ++ Decision.row l := rfl
theorem Decision.row_append (l m : List Decision) : Decision.row (l ++ m) = Decision.row l ++ Decision.row m := by simp [Decision.row]
@[simp] theorem Decision.row_sub (l : List Decision) (i : Nat) (h : i < l.length) : sub (Decision.row l) (i * 14) 14 = some (l[i]).enc := q78 Decision.enc 14 Decision.len l i h
@[simp] theorem Decision.row_getE0 (l : List Decision) (i : Nat) (h : i * 14 < (Decision.row l).length) : (Decision.row l)[i * 14]'h = .int (l[i]'(by rw [Decision.row_len] at h; omega)).no := by
 have hl : i < l.length := by rw [Decision.row_len] at h; omega
 have := k7n Decision.enc 14 Decision.len l i 0 hl (by omega)
 have h2 : (Decision.row l)[i * 14]? = some (.int l[i].no) := this
 rw [List.getElem?_eq_getElem h] at h2
 exact Option.some.inj h2
theorem Decision.row_fz (b : Nat) (o : PObj) (k : Nat) (l : List Decision) : k3s b o k (Decision.row l) = Decision.row l := z2i Decision.enc Decision.fz b o k l
attribute [simp] Decision.row_fz
abbrev Decision.event (d : Decision) : Event := ⟨d.eno, d.ekind, d.eround, d.eentry, d.ejudge, d.eitem, d.evalue, d.eat, d.eknown⟩
@[simp] theorem Decision.subEv (d : Decision) : sub d.enc 5 9 = some d.event.enc := rfl
def btw (n lo hi : Int) : Bool := decide (lo ≤ n) && decide (n ≤ hi)
theorem q96 (n lo hi : Int) (st : q43) : Rets P F.q1h [.int n, .int lo, .int hi] st (.bool (btw n lo hi)) := by
 refine H.q1h.pure q5d rfl rfl ?_
 simp -dsimp -implicitDefEqProofs
 simp [btw]; grind
def k2t (e : Event) : Bool := btw e.item 0 63 && btw e.value 0 1000
theorem k8v (e : Event) (st : q43) : Rets P F.q3q [e.pv] st (.bool (k2t e)) := by
 refine H.q3q.pure q5d rfl rfl ?_
 repeat' (first 
  | (with_reducible refine Fresh.intro fun b hb => ?_) <;> (try simp -dsimp -implicitDefEqProofs [*] at hb)
  | (with_reducible refine Rets.xcall (q96 ..) ?_)
  | (with_reducible refine And.intro (fun h => ?_) (fun h => ?_)) <;> (try (exfalso; omega))
  | (simp -dsimp -implicitDefEqProofs [*]))
 all_goals simp_all [k2t]
def j88 : PV := .func (.func F.q3q) [] []
theorem z7v (e : Event) (st : q43) : Rets P F.q25 [e.pv, .iptr [j88] 0] st (.bool (e.judge == 0 && k2t e)) := by
 refine H.q25.pure q5d rfl rfl ?_
 repeat' (first 
  | (with_reducible refine Fresh.intro fun b hb => ?_) <;> (try simp -dsimp -implicitDefEqProofs [*] at hb)
  | (with_reducible refine Rets.xcall (k8v e _) ?_)
  | (with_reducible refine And.intro (fun h => ?_) (fun h => ?_)) <;> (try (exfalso; omega))
  | (simp -dsimp -implicitDefEqProofs [j88, *]))
 all_goals (try simp_all [k2t])
theorem z7w (e : Event) (st : q43) : Rets P F.q3r [e.pv, .iptr [j88] 0] st (.bool (btw e.judge 0 255 && k2t e)) := by
 refine H.q3r.pure q5d rfl rfl ?_
 repeat' (first 
  | (with_reducible refine Fresh.intro fun b hb => ?_) <;> (try simp -dsimp -implicitDefEqProofs [*] at hb)
  | (with_reducible refine Rets.xcall (q96 ..) ?_)
  | (with_reducible refine Rets.xcall (k8v e _) ?_)
  | (with_reducible refine And.intro (fun h => ?_) (fun h => ?_)) <;> (try (exfalso; omega))
  | (simp -dsimp -implicitDefEqProofs [j88, *]))
 all_goals (try simp_all [k2t])
theorem z7x (e : Event) (st : q43) : Rets P F.q3s [e.pv] st (.bool (e.judge == 0 && e.item == 0 && btw e.value 0 1)) := by
 refine H.q3s.pure q5d rfl rfl ?_
 repeat' (first 
  | (with_reducible refine Fresh.intro fun b hb => ?_) <;> (try simp -dsimp -implicitDefEqProofs [*] at hb)
  | (with_reducible refine Rets.xcall (q96 ..) ?_)
  | (with_reducible refine And.intro (fun h => ?_) (fun h => ?_)) <;> (try (exfalso; omega))
  | (simp -dsimp -implicitDefEqProofs [*]))
 all_goals (try simp_all [k2t])
def kv (f : FuncId) (cap : List PV) : PV := .agg [.func (.func f) [] cap]
def k8w : PV := .imap [.int .i64 1, .int .i64 2, .int .i64 3, .int .i64 4]
 [kv F.q3r [.iptr [j88] 0], kv F.q25 [.iptr [j88] 0], kv F.q25 [.iptr [j88] 0], kv F.q3s []]
theorem j1c (st : q43) : Rets P F.q38 [] st k8w := by
 refine H.q38.view q5d rfl rfl ?_
 repeat' (first 
  | (with_reducible refine Fresh.intro fun b hb => ?_) <;> (try simp -dsimp -implicitDefEqProofs [*] at hb)
  | (with_reducible refine RetView.fz 1 ?_ ?_)
  | (with_reducible refine RetView.same ?_)
  | (simp -dsimp -implicitDefEqProofs [k8w, kv, j88, *]))
def q7m (e : Event) : Bool :=
 (btw e.no 0 1048576 && btw e.round 0 7 && btw e.entry 0 4095) && (btw e.at' 0 2097151 && btw e.known 0 2097151) &&
 (if e.kind = 1 then btw e.judge 0 255 && k2t e else if e.kind = 2 ∨ e.kind = 3 then e.judge == 0 && k2t e else if e.kind = 4 then e.judge == 0 && e.item == 0 && btw e.value 0 1 else false)
theorem j1d (e : Event) (st : q43) : Rets P F.q39 [e.pv, k8w] st (.bool (q7m e)) := by
 refine H.q39.pure q5d rfl rfl ?_
 repeat' (first 
  | (with_reducible refine Fresh.intro fun b hb => ?_) <;> (try simp -dsimp -implicitDefEqProofs [*] at hb)
  | (with_reducible refine Rets.xcall (q96 ..) ?_)
  | (with_reducible refine Rets.xcall (z7v e _) ?_)
  | (with_reducible refine Rets.xcall (z7w e _) ?_)
  | (with_reducible refine Rets.xcall (z7x e _) ?_)
  | (with_reducible refine And.intro (fun h => ?_) (fun h => ?_)) <;> (try (exfalso; omega))
  | (simp -dsimp -implicitDefEqProofs [k8w, kv, *]))
 all_goals simp_all [q7m]
open Go.Pv
set_option maxRecDepth 100000
def ok (l : List Event) : Prop := (∀ e ∈ l, q7m e = true) ∧ l.Pairwise (fun a b => a.no < b.no)
instance (l : List Event) : Decidable (ok l) := inferInstanceAs (Decidable (_ ∧ _))
theorem j89 : ok [] := ⟨by simp, .nil⟩
theorem z2u {l : List Event} (h : ok l) (i : Nat) : ok (l.take i) := ⟨fun e he => h.1 e (List.mem_of_mem_take he), h.2.sublist (List.take_sublist _ _)⟩
theorem k2u {l : List Event} {i : Nat} (hi : i < l.length) (h : ok (l.take i)) : ok (l.take (i + 1)) ↔ q7m l[i] = true ∧ (0 < i → ∀ h : i - 1 < l.length, l[i - 1].no < l[i].no) := by
 have e : l.take (i + 1) = l.take i ++ [l[i]] := by rw [List.take_succ_eq_append_getElem hi]
 constructor
 ·rintro ⟨h1, h2⟩
  refine ⟨h1 _ (by rw [e]; exact List.mem_append_right _ (by simp)), fun h0 hl => ?_⟩
  rw [e, List.pairwise_append] at h2
  refine h2.2.2 _ ?_ _ (by simp)
  rw [List.mem_iff_getElem]
  exact ⟨i - 1, by simp; omega, by simp⟩
 ·rintro ⟨h1, h2⟩
  rw [e]
  refine ⟨fun x hx => ?_, ?_⟩
  ·rcases List.mem_append.1 hx with hx | hx
   ·exact h.1 x hx
   ·simp at hx; subst hx; exact h1
  ·rw [List.pairwise_append]
   refine ⟨h.2, by simp, fun x hx y hy => ?_⟩
   simp at hy; subst hy
   obtain ⟨j, hj, rfl⟩ := List.mem_iff_getElem.1 hx
   have hjl : j < i := by simp at hj; omega
   have h0 := h2 (by omega) (by omega)
   simp only [List.getElem_take]
   by_cases hji : j = i - 1
   ·subst hji; exact h0
   ·have := (List.pairwise_iff_getElem.1 h.2) j (i - 1) hj (by simp; omega) (by omega)
    simp only [List.getElem_take] at this
    omega
def q75 (l : List Event) : Int := if 4096 < l.length then 2 else if ok l then 0 else 490
theorem k6b (t : Bool) (l : List Event) (st : q43) : Rets P F.q26 [Event.lst t l] st (.int (q75 l)) := by
 refine H.q26.pure q5d rfl rfl ?_
 repeat' (first 
  | (with_reducible refine Rets.xcall (j1c _) ?_)
  | (with_reducible refine And.intro (fun h => ?_) (fun h => ?_)) <;> (try (exfalso; omega))
  | (simp -dsimp -implicitDefEqProofs [*]))
 ·simp [q75]; omega
 ·refine q44 (fun i => [(0, Event.lst t l), (3, k8w), (10, Event.lst t l), (11, .int l.length), (12, .int (i : Nat))]) (fun _ => st) (fun i => i ≤ l.length ∧ ok (l.take i)) (fun i => l.length - i) 0 ?_ ?_ ?_ ?_
  ·exact ⟨Nat.zero_le _, by simpa using j89⟩
  ·simp
  ·exact StLe.refl _
  rintro i ⟨hi, hok⟩
  have hw := q46 (n := i) (by omega)
  have hw2 : IntKind.i64.wrap ((i : Int) - 1) = (i : Int) - 1 := q5a (by omega) (by omega)
  have ht : ((i : Int) - 1).toNat = i - 1 := by omega
  repeat' (first 
   | (with_reducible refine Fresh.intro fun b hb => ?_) <;> (try simp -dsimp -implicitDefEqProofs [*] at hb)
   | (with_reducible refine Rets.xcall (j1d _ _) ?_)
   | (with_reducible refine DrawLate.intro [] ?_)
   | (with_reducible refine And.intro (fun h => ?_) (fun h => ?_)) <;> (try (exfalso; omega))
   | ((with_reducible refine q5i ?_ fun hk => ?_); omega)
   | (simp -dsimp -implicitDefEqProofs [*]))
  ·have h2 : ¬ ok l := fun hl => by
    have := (k2u ‹_› hok).1 (z2u hl (i + 1))
    have := this.2 ‹_› ‹_›
    omega
   simp [q75, h2]; omega
  ·refine Next.intro (i + 1) ⟨by omega, (k2u ‹_› hok).2 ⟨‹_›, fun _ _ => by omega⟩⟩ (by omega) ?_ (by simp [*])
   simp [hw]
  ·subst i
   refine Next.intro 1 ⟨by omega, (k2u ‹_› hok).2 ⟨‹_›, fun h => by omega⟩⟩ (by omega) ?_ (by simp [*])
   simp
  ·have h2 : ¬ ok l := fun hl => by
    have := (k2u ‹_› hok).1 (z2u hl (i + 1))
    simp_all
   simp [q75, h2]; omega
  ·rw [List.take_of_length_le ‹_›] at hok
   simp [q75, hok]; omega
open Go.Pv
set_option maxRecDepth 100000
def j15 (a b : Int) : Int := if a < b then -1 else if b < a then 1 else 0
theorem j1e (a : Int) (st : q43) : Rets P F.q3o [.int a] st (.bool false) := by
 refine H.q3o.pure q5d rfl rfl ?_
 repeat' (simp -dsimp -implicitDefEqProofs [*])
theorem z9w (a b : Int) (st : q43) : Rets P F.q23 [.int a, .int b] st (.int (j15 a b)) := by
 refine H.q23.pure q5d rfl rfl ?_
 repeat' (first 
  | (with_reducible refine Rets.xcall (j1e ..) ?_)
  | (with_reducible refine And.intro (fun h => ?_) (fun h => ?_)) <;> (try (exfalso; omega))
  | (simp -dsimp -implicitDefEqProofs [*]))
 all_goals (unfold j15; grind)
theorem k8x {l : List Event} : q75 l = 0 ↔ l.length ≤ 4096 ∧ ok l := by
 unfold q75
 split
 ·constructor <;> intro h <;> omega
 ·split
  ·constructor
   ·intro _; exact ⟨by omega, by assumption⟩
   ·intro _; rfl
  ·constructor
   ·intro h; omega
   ·intro h; exact absurd h.2 (by assumption)
theorem y51 (e : Event) : ok [e] ↔ q7m e = true := by simp [ok]
theorem k6c (e : Event) : q75 [e] = 0 ↔ q7m e = true := by
 rw [k8x, y51]; simp
theorem z7y (t : Bool) (e : Event) : PV.list t e.enc 1 = Event.lst t [e] := by simp [Event.lst]
theorem j1f (e : Event) (st : q43) : Rets P F.q37 [e.pv] st (.bool (q7m e)) := by
 refine H.q37.pure q5d rfl rfl ?_
 have h := k6c e
 have hb : decide (q75 [e] = 0) = q7m e := by rw [Bool.eq_iff_iff, decide_eq_true_eq, h]
 repeat' (first 
  | (with_reducible refine Fresh.intro fun b hb => ?_) <;> (try simp -dsimp -implicitDefEqProofs [*] at hb)
  | (with_reducible refine Rets.xcall (k6b _ [e] _) ?_)
  | (with_reducible refine Lit.imm ?_)
  | (simp -dsimp -implicitDefEqProofs [z7y, *]))
theorem j1g (n lo hi : Int) (st : q43) : Rets P F.q08 [.int n, .int lo, .int hi] st (.bool (btw n lo hi)) := by
 refine H.q08.pure q5d rfl rfl ?_
 simp -dsimp -implicitDefEqProofs
 simp [btw]; grind
theorem k5a (e : Event) (st : q43) : Rets P F.q2u [e.pv] st (.bool (q7m e)) := by
 refine H.q2u.pure q5d rfl rfl ?_
 repeat' (first 
  | (with_reducible refine Fresh.intro fun b hb => ?_) <;> (try simp -dsimp -implicitDefEqProofs [*] at hb)
  | (with_reducible refine Rets.xcall (j1g ..) ?_)
  | (with_reducible refine And.intro (fun h => ?_) (fun h => ?_)) <;> (try (exfalso; omega))
  | (simp -dsimp -implicitDefEqProofs [*]))
 all_goals (simp_all [q7m, k2t]; try grind)
theorem j3z {l : List Event} {i : Nat} (hok : ok (l.take i)) (h : i < l.length) (hr : q7m l[i] = false) (hl : l.length ≤ 4096) : 490 = q75 l := by
 have h2 : ¬ ok l := fun hl => by
  have := (k2u h hok).1 (z2u hl (i + 1))
  rw [hr] at this; exact absurd this.1 (by simp)
 simp [q75, h2]; omega
theorem j30 {l : List Event} {i : Nat} (hok : ok (l.take i)) (h : i < l.length) (h0 : 0 < i) (h1 : i - 1 < l.length) (hr : l[i].no ≤ l[i - 1].no) (hl : l.length ≤ 4096) : 490 = q75 l := by
 have h2 : ¬ ok l := fun hl => by
  have := (k2u h hok).1 (z2u hl (i + 1))
  have := this.2 h0 h1
  omega
 simp [q75, h2]; omega
theorem z2v (t : Bool) (l : List Event) (st : q43) : Rets P F.q3g [Event.lst t l] st (.int (q75 l)) := by
 refine H.q3g.pure q5d rfl rfl ?_
 repeat' (first 
  | (with_reducible refine And.intro (fun h => ?_) (fun h => ?_)) <;> (try (exfalso; omega))
  | (simp -dsimp -implicitDefEqProofs [*]))
 ·simp [q75]; omega
 ·refine q44 (fun i => [(0, Event.lst t l), (3, .int (i : Nat))]) (fun _ => st) (fun i => i ≤ l.length ∧ ok (l.take i)) (fun i => l.length - i) 0 ?_ ?_ ?_ ?_
  ·exact ⟨Nat.zero_le _, by simpa using j89⟩
  ·simp
  ·exact StLe.refl _
  rintro i ⟨hi, hok⟩
  have hw := q46 (n := i) (by omega)
  have hw2 : IntKind.i64.wrap ((i : Int) - 1) = (i : Int) - 1 := q5a (by omega) (by omega)
  have ht : ((i : Int) - 1).toNat = i - 1 := by omega
  repeat' (first 
   | (with_reducible refine Rets.xcall (k5a _ _) ?_)
   | (with_reducible refine DrawLate.intro [] ?_)
   | (with_reducible refine And.intro (fun h => ?_) (fun h => ?_)) <;> (try (exfalso; omega))
   | ((with_reducible refine q5i ?_ fun hk => ?_); omega)
   | (simp -dsimp -implicitDefEqProofs [*]))
  ·exact j30 hok ‹_› ‹_› ‹_› ‹_› (by omega)
  ·refine Next.intro (i + 1) ⟨by omega, (k2u ‹_› hok).2 ⟨‹_›, fun _ _ => by omega⟩⟩ (by omega) ?_ (by simp)
   simp
  ·subst i
   refine Next.intro 1 ⟨by omega, (k2u ‹_› hok).2 ⟨‹_›, fun h => by omega⟩⟩ (by omega) ?_ (by simp)
   simp
  ·exact j3z hok ‹_› ‹_› (by omega)
  ·rw [List.take_of_length_le ‹_›] at hok
   simp [q75, hok]; omega
theorem j1h (e : Event) (st : q43) : Rets P F.q3f [e.pv] st (.bool (q7m e)) := by
 refine H.q3f.pure q5d rfl rfl ?_
 have h := k6c e
 have hb : decide (q75 [e] = 0) = q7m e := by rw [Bool.eq_iff_iff, decide_eq_true_eq, h]
 repeat' (first 
  | (with_reducible refine Fresh.intro fun b hb => ?_) <;> (try simp -dsimp -implicitDefEqProofs [*] at hb)
  | (with_reducible refine Rets.xcall (z2v _ [e] _) ?_)
  | (with_reducible refine Lit.imm ?_)
  | (simp -dsimp -implicitDefEqProofs [z7y, *]))
abbrev zeroE : Event := ⟨0, 0, 0, 0, 0, 0, 0, 0, 0⟩
theorem q7l : [PV.int 0, .int 0, .int 0, .int 0, .int 0, .int 0, .int 0, .int 0, .int 0] = zeroE.enc := rfl
def k2v (d : Decision) : Bool := decide (0 ≤ d.target) && decide (d.target ≤ 1048576) && decide (d.event = zeroE)
theorem k8y (d : Decision) (st : q43) : Rets P F.q3u [d.pv] st (.bool (k2v d)) := by
 refine H.q3u.pure q5d rfl rfl ?_
 repeat' (first 
  | (with_reducible refine Fresh.intro fun b hb => ?_) <;> (try simp -dsimp -implicitDefEqProofs [*] at hb)
  | (with_reducible refine And.intro (fun h => ?_) (fun h => ?_)) <;> (try (exfalso; omega))
  | (simp -dsimp -implicitDefEqProofs [q7l, *]))
 all_goals (try simp_all [k2v])
 all_goals (intros; omega)
def k38 (d : Decision) : Bool := k2v d && decide (d.value = 0)
def k8z (d : Decision) : Bool := k2v d && decide (0 ≤ d.value) && decide (d.value ≤ 1000)
def addD (d : Decision) : Bool := decide (d.target = 0) && decide (d.value = 0) && q7m d.event
theorem z5f (d : Decision) (st : q43) : Rets P F.q29 [d.pv] st (.bool (k38 d)) := by
 refine H.q29.pure q5d rfl rfl ?_
 repeat' (first 
  | (with_reducible refine Fresh.intro fun b hb => ?_) <;> (try simp -dsimp -implicitDefEqProofs [*] at hb)
  | (with_reducible refine Rets.xcall (k8y _ _) ?_)
  | (with_reducible refine And.intro (fun h => ?_) (fun h => ?_)) <;> (try (exfalso; omega))
  | (simp -dsimp -implicitDefEqProofs [*]))
 all_goals (simp_all [k38])
theorem z5g (d : Decision) (st : q43) : Rets P F.q3a [d.pv] st (.bool (k8z d)) := by
 refine H.q3a.pure q5d rfl rfl ?_
 repeat' (first 
  | (with_reducible refine Fresh.intro fun b hb => ?_) <;> (try simp -dsimp -implicitDefEqProofs [*] at hb)
  | (with_reducible refine Rets.xcall (k8y _ _) ?_)
  | (with_reducible refine And.intro (fun h => ?_) (fun h => ?_)) <;> (try (exfalso; omega))
  | (simp -dsimp -implicitDefEqProofs [*]))
 all_goals (try simp_all [k8z])
 all_goals (intros; omega)
theorem z5h (d : Decision) (st : q43) : Rets P F.q3b [d.pv] st (.bool (addD d)) := by
 refine H.q3b.pure q5d rfl rfl ?_
 repeat' (first 
  | (with_reducible refine Fresh.intro fun b hb => ?_) <;> (try simp -dsimp -implicitDefEqProofs [*] at hb)
  | (with_reducible refine Rets.xcall (j1f _ _) ?_)
  | (with_reducible refine And.intro (fun h => ?_) (fun h => ?_)) <;> (try (exfalso; omega))
  | (simp -dsimp -implicitDefEqProofs [*]))
 all_goals (simp_all [addD])
abbrev fnv (f : FuncId) : PV := .func (.func f) [] []
def allKinds : List PV := [.val .nilFunc, .val .nilFunc, fnv F.q29, fnv F.q4o, fnv F.q3a, fnv F.q4p, fnv F.q3b, fnv F.q4q]
theorem z7z (st : q43) : Rets P F.q35 [] st (.agg allKinds) := by
 refine H.q35.view q5d rfl rfl ?_
 repeat' (first 
  | (with_reducible refine Fresh.intro fun b hb => ?_) <;> (try simp -dsimp -implicitDefEqProofs [*] at hb)
  | (with_reducible refine RetView.fz 1 ?_ ?_)
  | (with_reducible refine RetView.same ?_)
  | (simp -dsimp -implicitDefEqProofs [allKinds, *]))
open Go.Pv
set_option maxRecDepth 100000
open Go.Pv
set_option maxRecDepth 100000
def q7r (d : Decision) : Bool := if d.kind = 1 then k38 d else if d.kind = 2 then k8z d else if d.kind = 3 then addD d else false
def q66 (d : Decision) : Bool := btw d.no 0 1048576 && btw d.known 0 2097151 && q7r d
def okD (l : List Decision) : Prop := (∀ e ∈ l, q66 e = true) ∧ l.Pairwise (fun a b => a.no < b.no)
instance (l : List Decision) : Decidable (okD l) := inferInstanceAs (Decidable (_ ∧ _))
def k5b (l : List Decision) : Int := match l.getLast? with | some e => e.no | none => -1
@[simp] theorem j31 : k5b [] = -1 := rfl
@[simp] theorem k3f (l : List Decision) (x : Decision) : k5b (l ++ [x]) = x.no := by simp [k5b]
theorem k5c {e : Decision} (h : q66 e = true) : 0 ≤ e.no ∧ e.no ≤ 1048576 := by
 unfold q66 btw at h
 simp at h
 omega
theorem z71 : okD [] := ⟨by simp, .nil⟩
theorem j63 {l : List Decision} (h : okD l) : ∀ z ∈ l, z.no ≤ k5b l := by
 intro z hz
 rcases List.eq_nil_or_concat l with rfl | ⟨L, x, rfl⟩
 ·simp at hz
 ·rw [List.concat_eq_append] at *
  rw [k3f]
  rcases List.mem_append.1 hz with hz | hz
  ·have := (List.pairwise_append.1 h.2).2.2 z hz x (by simp)
   omega
  ·simp at hz; subst hz; omega
theorem z9x {l : List Decision} {x : Decision} (h : okD l) : okD (l ++ [x]) ↔ q66 x = true ∧ k5b l < x.no := by
 constructor
 ·rintro ⟨h1, h2⟩
  refine ⟨h1 x (by simp), ?_⟩
  rcases List.eq_nil_or_concat l with rfl | ⟨L, y, rfl⟩
  ·have := k5c (h1 x (by simp)); simp; omega
  ·rw [List.concat_eq_append] at *
   rw [k3f]
   exact (List.pairwise_append.1 h2).2.2 y (by simp) x (by simp)
 ·rintro ⟨h1, h2⟩
  refine ⟨fun z hz => ?_, List.pairwise_append.2 ⟨h.2, by simp, fun z hz y hy => ?_⟩⟩
  ·rcases List.mem_append.1 hz with hz | hz
   ·exact h.1 z hz
   ·simp at hz; subst hz; exact h1
  ·simp at hy; subst hy
   have := j63 h z hz
   omega
theorem j64 {l : List Decision} (h : okD l) (i : Nat) : okD (l.take i) := ⟨fun e he => h.1 e (List.mem_of_mem_take he), h.2.sublist (List.take_sublist _ _)⟩
theorem z2w {l : List Decision} {i : Nat} (hi : i < l.length) (h : okD (l.take i)) : okD (l.take (i + 1)) ↔ q66 l[i] = true ∧ k5b (l.take i) < l[i].no := by
 rw [List.take_succ_eq_append_getElem hi]
 exact z9x h
def q8b (l : List Decision) : Int := if 4096 < l.length then 2 else if okD l then 0 else 510
theorem k1l {l : List Decision} : q8b l = 0 ↔ l.length ≤ 4096 ∧ okD l := by
 unfold q8b
 split
 ·constructor <;> intro h <;> omega
 ·split
  ·constructor
   ·intro _; exact ⟨by omega, by assumption⟩
   ·intro _; rfl
  ·constructor
   ·intro h; omega
   ·intro h; exact absurd h.2 (by assumption)
theorem z5i {l : List Decision} {i : Nat} (hi : i < l.length) (h : okD (l.take i)) (hl : l.length ≤ 4096) (hn : q66 l[i] = false ∨ l[i].no ≤ k5b (l.take i)) : q8b l = 510 := by
 have h2 : ¬ okD l := fun hk => by
  have := (z2w hi h).1 (j64 hk (i + 1))
  rcases hn with hn | hn
  ·rw [hn] at this; exact absurd this.1 (by simp)
  ·omega
 rw [q8b, if_neg (by omega), if_neg h2]
theorem z1c {l : List Decision} {i : Nat} (hi : i < l.length) : k5b (l.take (i + 1)) = l[i].no := by
 rw [List.take_succ_eq_append_getElem hi, k3f]
theorem z72 {l : List Decision} (h : okD l) : -1 ≤ k5b l := by
 rcases List.eq_nil_or_concat l with rfl | ⟨L, y, rfl⟩
 ·simp
 ·rw [List.concat_eq_append] at *
  rw [k3f]
  have := k5c (h.1 y (by simp))
  omega
theorem k3g {d : Decision} (h : d.kind < 1 ∨ 3 < d.kind ∨ 1048576 < d.no ∨ d.known < 0 ∨ 2097152 ≤ d.known) : q66 d = false := by
 unfold q66 btw q7r
 rcases h with h | h | h | h | h
 ·have : ¬ d.kind = 1 ∧ ¬ d.kind = 2 ∧ ¬ d.kind = 3 := by omega
  simp [this]
 ·have : ¬ d.kind = 1 ∧ ¬ d.kind = 2 ∧ ¬ d.kind = 3 := by omega
  simp [this]
 all_goals simp
 all_goals (intros; omega)
theorem k80 {d : Decision} {last : Int} (h0 : -1 ≤ last) (h1 : last < d.no) (h2 : d.no ≤ 1048576) (h3 : 0 ≤ d.known) (h4 : d.known < 2097152) : q66 d = q7r d := by
 unfold q66 btw
 have : 0 ≤ d.no ∧ d.known ≤ 2097151 := by omega
 simp [*]
@[simp] theorem j9a : allKinds.length = 8 := rfl
theorem k81 (t : Bool) (l : List Decision) (st : q43) : Rets P F.q3h [Decision.lst t l] st (.int (q8b l)) := by
 refine H.q3h.pure q5d rfl rfl ?_
 repeat' (first 
  | (with_reducible refine Fresh.intro fun b hb => ?_) <;> (try simp -dsimp -implicitDefEqProofs [*] at hb)
  | (with_reducible refine Rets.xcall (z7z _) ?_)
  | (with_reducible refine And.intro (fun h => ?_) (fun h => ?_)) <;> (try (exfalso; omega))
  | (simp -dsimp -implicitDefEqProofs [*]))
 ·simp [q8b]; omega
 ·refine q44 (fun i => [(0, Decision.lst t l), (3, .ptr b 0), (4, .int (k5b (l.take i))), (11, Decision.lst t l), (12, .int l.length), (13, .int (i : Nat))]) (fun _ => (b, .arr T.q4x allKinds) :: st) (fun i => i ≤ l.length ∧ okD (l.take i)) (fun i => l.length - i) 0 ?_ ?_ ?_ ?_
  ·exact ⟨Nat.zero_le _, by simpa using z71⟩
  ·simp
  ·exact StLe.refl _
  rintro i ⟨hi, hok⟩
  have hw := q46 (n := i) (by omega)
  have hlr := z72 hok
  have hno := fun (hil : i < l.length) hn => (z5i hil hok (by omega) hn)
  have hst := fun (hil : i < l.length) => (z2w hil hok)
  have hls := fun (hil : i < l.length) => (z1c hil)
  have hfin : l.length ≤ i → q8b l = 0 := fun h => by rw [List.take_of_length_le h] at hok; exact (k1l.2 ⟨by omega, hok⟩)
  clear hok
  generalize hlast : k5b (l.take i) = last at *
  by_cases hil : i < l.length
  ·replace hno := hno hil
   replace hst := hst hil
   replace hls := hls hil
   clear hfin
   generalize hd : l[i] = d at *
   have hk4 : d.kind = 1 ∨ d.kind = 2 ∨ d.kind = 3 ∨ d.kind < 1 ∨ 3 < d.kind := by omega
   have fin : last < d.no → d.no ≤ 1048576 → 0 ≤ d.known → d.known < 2097152 → q7r d = true → okD (l.take (i + 1)) := fun h1 h2 h3 h4 h5 => hst.2 ⟨by rw [k80 hlr h1 h2 h3 h4]; exact h5, h1⟩
   have bad : last < d.no → d.no ≤ 1048576 → 0 ≤ d.known → d.known < 2097152 → q7r d = false → q8b l = 510 := fun h1 h2 h3 h4 h5 => hno (.inl (by rw [k80 hlr h1 h2 h3 h4]; exact h5))
   have out : d.kind < 1 ∨ 3 < d.kind ∨ 1048576 < d.no ∨ d.known < 0 ∨ 2097152 ≤ d.known → q8b l = 510 := fun h => hno (.inl (k3g h))
   have low : d.no ≤ last → q8b l = 510 := fun h => hno (.inr h)
   clear hst hno
   rcases hk4 with hk1 | hk1 | hk1 | hk1 | hk1
   ·have hr : q7r d = k38 d := by simp [q7r, hk1]
    rw [hr] at fin bad
    repeat' (first 
     | (with_reducible refine Fresh.intro fun b hb => ?_) <;> (try simp -dsimp -implicitDefEqProofs [*] at hb)
     | (with_reducible refine Rets.xcall (z5f _ _) ?_)
     | (with_reducible refine DrawLate.intro [] ?_)
     | (with_reducible refine And.intro (fun h => ?_) (fun h => ?_)) <;> (try (exfalso; omega))
     | (simp -dsimp -implicitDefEqProofs [allKinds, *]))
    refine Next.intro (i + 1) ⟨by omega, fin ‹_› ‹_› ‹_› ‹_› ‹_›⟩ (by omega) (by simp [*]) ?_
    exact StLe.fresh (by simp [*])
   ·have hr : q7r d = k8z d := by simp [q7r, hk1]
    rw [hr] at fin bad
    repeat' (first 
     | (with_reducible refine Fresh.intro fun b hb => ?_) <;> (try simp -dsimp -implicitDefEqProofs [*] at hb)
     | (with_reducible refine Rets.xcall (z5g _ _) ?_)
     | (with_reducible refine DrawLate.intro [] ?_)
     | (with_reducible refine And.intro (fun h => ?_) (fun h => ?_)) <;> (try (exfalso; omega))
     | (simp -dsimp -implicitDefEqProofs [allKinds, *]))
    refine Next.intro (i + 1) ⟨by omega, fin ‹_› ‹_› ‹_› ‹_› ‹_›⟩ (by omega) (by simp [*]) ?_
    exact StLe.fresh (by simp [*])
   ·have hr : q7r d = addD d := by simp [q7r, hk1]
    rw [hr] at fin bad
    repeat' (first 
     | (with_reducible refine Fresh.intro fun b hb => ?_) <;> (try simp -dsimp -implicitDefEqProofs [*] at hb)
     | (with_reducible refine Rets.xcall (z5h _ _) ?_)
     | (with_reducible refine DrawLate.intro [] ?_)
     | (with_reducible refine And.intro (fun h => ?_) (fun h => ?_)) <;> (try (exfalso; omega))
     | (simp -dsimp -implicitDefEqProofs [allKinds, *]))
    refine Next.intro (i + 1) ⟨by omega, fin ‹_› ‹_› ‹_› ‹_› ‹_›⟩ (by omega) (by simp [*]) ?_
    exact StLe.fresh (by simp [*])
   ·repeat' (first 
     | (with_reducible refine Fresh.intro fun b hb => ?_) <;> (try simp -dsimp -implicitDefEqProofs [*] at hb)
     | (with_reducible refine DrawLate.intro [] ?_)
     | (simp -dsimp -implicitDefEqProofs [*]))
    all_goals done
   ·repeat' (first 
     | (with_reducible refine Fresh.intro fun b hb => ?_) <;> (try simp -dsimp -implicitDefEqProofs [*] at hb)
     | (with_reducible refine DrawLate.intro [] ?_)
     | (simp -dsimp -implicitDefEqProofs [*]))
    all_goals done
  ·repeat' (simp -dsimp -implicitDefEqProofs [*])
   exact (hfin (by omega)).symm
end Go.Proofs.YtmlmoaimjifpgaaGreat
