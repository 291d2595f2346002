/- The record's kinds of events: small functions. -/
import Derived.Test.YtmlmoaimjifpgaaGreatCode
import Derived.Test.YtmlmoaimjifpgaaGreatLLo
import Derived.Test.YtmlmoaimjifpgaaGreatLVf
import Derived.Test.YtmlmoaimjifpgaaGreatLCd
import Derived.Test.YtmlmoaimjifpgaaGreatLWd
import Derived.Test.YtmlmoaimjifpgaaGreatLNt
namespace Go.Proofs.YtmlmoaimjifpgaaGreat
open Go.Pv
set_option maxRecDepth 100000
structure Event where
 no:Int
 kind:Int
 round:Int
 entry:Int
 judge:Int
 item:Int
 value:Int
 at':Int
 known:Int
 deriving DecidableEq,Inhabited
def Event.enc (x:Event):List PV:=[.int x.no,.int x.kind,.int x.round,.int x.entry,.int x.judge,.int x.item,.int x.value,.int x.at',.int x.known]
abbrev Event.pv (x:Event):PV:=.agg x.enc
@[simp] theorem Event.len (x:Event):x.enc.length=9:=rfl
@[simp] theorem Event.subAll (x:Event):sub x.enc 0 9=some x.enc:=rfl
@[simp] theorem Event.get0 (x:Event):x.enc[0]?=some (.int x.no):=rfl
@[simp] theorem Event.getE0 (x:Event)(h:0<x.enc.length):x.enc[0]'h=.int x.no:=rfl
@[simp] theorem Event.set0 (x:Event)(v:Int):List.set x.enc 0 (.int v)=(Event.mk v x.kind x.round x.entry x.judge x.item x.value x.at' x.known).enc:=rfl
@[simp] theorem Event.get1 (x:Event):x.enc[1]?=some (.int x.kind):=rfl
@[simp] theorem Event.getE1 (x:Event)(h:1<x.enc.length):x.enc[1]'h=.int x.kind:=rfl
@[simp] theorem Event.set1 (x:Event)(v:Int):List.set x.enc 1 (.int v)=(Event.mk x.no v x.round x.entry x.judge x.item x.value x.at' x.known).enc:=rfl
@[simp] theorem Event.get2 (x:Event):x.enc[2]?=some (.int x.round):=rfl
@[simp] theorem Event.getE2 (x:Event)(h:2<x.enc.length):x.enc[2]'h=.int x.round:=rfl
@[simp] theorem Event.set2 (x:Event)(v:Int):List.set x.enc 2 (.int v)=(Event.mk x.no x.kind v x.entry x.judge x.item x.value x.at' x.known).enc:=rfl
@[simp] theorem Event.get3 (x:Event):x.enc[3]?=some (.int x.entry):=rfl
@[simp] theorem Event.getE3 (x:Event)(h:3<x.enc.length):x.enc[3]'h=.int x.entry:=rfl
@[simp] theorem Event.set3 (x:Event)(v:Int):List.set x.enc 3 (.int v)=(Event.mk x.no x.kind x.round v x.judge x.item x.value x.at' x.known).enc:=rfl
@[simp] theorem Event.get4 (x:Event):x.enc[4]?=some (.int x.judge):=rfl
@[simp] theorem Event.getE4 (x:Event)(h:4<x.enc.length):x.enc[4]'h=.int x.judge:=rfl
@[simp] theorem Event.set4 (x:Event)(v:Int):List.set x.enc 4 (.int v)=(Event.mk x.no x.kind x.round x.entry v x.item x.value x.at' x.known).enc:=rfl
@[simp] theorem Event.get5 (x:Event):x.enc[5]?=some (.int x.item):=rfl
@[simp] theorem Event.getE5 (x:Event)(h:5<x.enc.length):x.enc[5]'h=.int x.item:=rfl
@[simp] theorem Event.set5 (x:Event)(v:Int):List.set x.enc 5 (.int v)=(Event.mk x.no x.kind x.round x.entry x.judge v x.value x.at' x.known).enc:=rfl
@[simp] theorem Event.get6 (x:Event):x.enc[6]?=some (.int x.value):=rfl
@[simp] theorem Event.getE6 (x:Event)(h:6<x.enc.length):x.enc[6]'h=.int x.value:=rfl
@[simp] theorem Event.set6 (x:Event)(v:Int):List.set x.enc 6 (.int v)=(Event.mk x.no x.kind x.round x.entry x.judge x.item v x.at' x.known).enc:=rfl
@[simp] theorem Event.get7 (x:Event):x.enc[7]?=some (.int x.at'):=rfl
@[simp] theorem Event.getE7 (x:Event)(h:7<x.enc.length):x.enc[7]'h=.int x.at':=rfl
@[simp] theorem Event.set7 (x:Event)(v:Int):List.set x.enc 7 (.int v)=(Event.mk x.no x.kind x.round x.entry x.judge x.item x.value v x.known).enc:=rfl
@[simp] theorem Event.get8 (x:Event):x.enc[8]?=some (.int x.known):=rfl
@[simp] theorem Event.getE8 (x:Event)(h:8<x.enc.length):x.enc[8]'h=.int x.known:=rfl
@[simp] theorem Event.set8 (x:Event)(v:Int):List.set x.enc 8 (.int v)=(Event.mk x.no x.kind x.round x.entry x.judge x.item x.value x.at' v).enc:=rfl
@[simp] theorem Event.fz (b:Nat)(o:PObj)(k:Nat)(x:Event):k4b b o k x.enc=x.enc:=rfl
@[simp] theorem Event.fill (x y:Event):q5j x.enc 0 y.enc=y.enc:=rfl
@[simp] theorem Event.eq (x y:Event):q6c [.int,.int,.int,.int,.int,.int,.int,.int,.int] x.enc y.enc=some (decide (x=y)):=by
 simp [Event.enc]
 cases x; cases y; simp [Event.mk.injEq]
@[simp] theorem Event.key (x:Event):PV.vals? x.enc=some [.int .i64 x.no,.int .i64 x.kind,.int .i64 x.round,.int .i64 x.entry,.int .i64 x.judge,.int .i64 x.item,.int .i64 x.value,.int .i64 x.at',.int .i64 x.known]:=rfl
def Event.row (l:List Event):List PV:=l.flatMap Event.enc
abbrev Event.lst (t:Bool)(l:List Event):PV:=.list t (Event.row l) l.length
@[simp] theorem Event.row_len (l:List Event):(Event.row l).length=l.length*9:=q6h Event.enc 9 Event.len l
@[simp] theorem Event.row_nil:Event.row []=[]:=rfl
@[simp] theorem Event.row_cons (x:Event)(l:List Event):Event.row (x::l)=x.enc++Event.row l:=rfl
theorem Event.row_append (l m:List Event):Event.row (l++m)=Event.row l++Event.row m:=by simp [Event.row]
@[simp] theorem Event.row_sub (l:List Event)(i:Nat)(h:i<l.length):sub (Event.row l) (i*9) 9=some (l[i]).enc:=q8v Event.enc 9 Event.len l i h
@[simp] theorem Event.row_getE0 (l:List Event)(i:Nat)(h:i*9<(Event.row l).length):(Event.row l)[i*9]'h=.int (l[i]'(by rw [Event.row_len] at h; omega)).no:=by
 have hl:i<l.length:=by rw [Event.row_len] at h; omega
 have:=q94 Event.enc 9 Event.len l i 0 hl (by omega)
 have h2:(Event.row l)[i*9]?=some (.int l[i].no):=this
 rw [List.getElem?_eq_getElem h] at h2
 exact Option.some.inj h2
theorem Event.row_fz (b:Nat)(o:PObj)(k:Nat)(l:List Event):k4b b o k (Event.row l)=Event.row l:=z3a Event.enc Event.fz b o k l
attribute [simp] Event.row_fz
structure Decision where
 no:Int
 known:Int
 kind:Int
 target:Int
 value:Int
 eno:Int
 ekind:Int
 eround:Int
 eentry:Int
 ejudge:Int
 eitem:Int
 evalue:Int
 eat:Int
 eknown:Int
 deriving DecidableEq,Inhabited
def Decision.enc (x:Decision):List PV:=[.int x.no,.int x.known,.int x.kind,.int x.target,.int x.value,.int x.eno,.int x.ekind,.int x.eround,.int x.eentry,.int x.ejudge,.int x.eitem,.int x.evalue,.int x.eat,.int x.eknown]
abbrev Decision.pv (x:Decision):PV:=.agg x.enc
@[simp] theorem Decision.len (x:Decision):x.enc.length=14:=rfl
@[simp] theorem Decision.subAll (x:Decision):sub x.enc 0 14=some x.enc:=rfl
@[simp] theorem Decision.get0 (x:Decision):x.enc[0]?=some (.int x.no):=rfl
@[simp] theorem Decision.getE0 (x:Decision)(h:0<x.enc.length):x.enc[0]'h=.int x.no:=rfl
@[simp] theorem Decision.set0 (x:Decision)(v:Int):List.set x.enc 0 (.int v)=(Decision.mk v x.known x.kind x.target x.value x.eno x.ekind x.eround x.eentry x.ejudge x.eitem x.evalue x.eat x.eknown).enc:=rfl
@[simp] theorem Decision.get1 (x:Decision):x.enc[1]?=some (.int x.known):=rfl
@[simp] theorem Decision.getE1 (x:Decision)(h:1<x.enc.length):x.enc[1]'h=.int x.known:=rfl
@[simp] theorem Decision.set1 (x:Decision)(v:Int):List.set x.enc 1 (.int v)=(Decision.mk x.no v x.kind x.target x.value x.eno x.ekind x.eround x.eentry x.ejudge x.eitem x.evalue x.eat x.eknown).enc:=rfl
@[simp] theorem Decision.get2 (x:Decision):x.enc[2]?=some (.int x.kind):=rfl
@[simp] theorem Decision.getE2 (x:Decision)(h:2<x.enc.length):x.enc[2]'h=.int x.kind:=rfl
@[simp] theorem Decision.set2 (x:Decision)(v:Int):List.set x.enc 2 (.int v)=(Decision.mk x.no x.known v x.target x.value x.eno x.ekind x.eround x.eentry x.ejudge x.eitem x.evalue x.eat x.eknown).enc:=rfl
@[simp] theorem Decision.get3 (x:Decision):x.enc[3]?=some (.int x.target):=rfl
@[simp] theorem Decision.getE3 (x:Decision)(h:3<x.enc.length):x.enc[3]'h=.int x.target:=rfl
@[simp] theorem Decision.set3 (x:Decision)(v:Int):List.set x.enc 3 (.int v)=(Decision.mk x.no x.known x.kind v x.value x.eno x.ekind x.eround x.eentry x.ejudge x.eitem x.evalue x.eat x.eknown).enc:=rfl
@[simp] theorem Decision.get4 (x:Decision):x.enc[4]?=some (.int x.value):=rfl
@[simp] theorem Decision.getE4 (x:Decision)(h:4<x.enc.length):x.enc[4]'h=.int x.value:=rfl
@[simp] theorem Decision.set4 (x:Decision)(v:Int):List.set x.enc 4 (.int v)=(Decision.mk x.no x.known x.kind x.target v x.eno x.ekind x.eround x.eentry x.ejudge x.eitem x.evalue x.eat x.eknown).enc:=rfl
@[simp] theorem Decision.get5 (x:Decision):x.enc[5]?=some (.int x.eno):=rfl
@[simp] theorem Decision.getE5 (x:Decision)(h:5<x.enc.length):x.enc[5]'h=.int x.eno:=rfl
@[simp] theorem Decision.set5 (x:Decision)(v:Int):List.set x.enc 5 (.int v)=(Decision.mk x.no x.known x.kind x.target x.value v x.ekind x.eround x.eentry x.ejudge x.eitem x.evalue x.eat x.eknown).enc:=rfl
@[simp] theorem Decision.get6 (x:Decision):x.enc[6]?=some (.int x.ekind):=rfl
@[simp] theorem Decision.getE6 (x:Decision)(h:6<x.enc.length):x.enc[6]'h=.int x.ekind:=rfl
@[simp] theorem Decision.set6 (x:Decision)(v:Int):List.set x.enc 6 (.int v)=(Decision.mk x.no x.known x.kind x.target x.value x.eno v x.eround x.eentry x.ejudge x.eitem x.evalue x.eat x.eknown).enc:=rfl
@[simp] theorem Decision.get7 (x:Decision):x.enc[7]?=some (.int x.eround):=rfl
@[simp] theorem Decision.getE7 (x:Decision)(h:7<x.enc.length):x.enc[7]'h=.int x.eround:=rfl
@[simp] theorem Decision.set7 (x:Decision)(v:Int):List.set x.enc 7 (.int v)=(Decision.mk x.no x.known x.kind x.target x.value x.eno x.ekind v x.eentry x.ejudge x.eitem x.evalue x.eat x.eknown).enc:=rfl
@[simp] theorem Decision.get8 (x:Decision):x.enc[8]?=some (.int x.eentry):=rfl
@[simp] theorem Decision.getE8 (x:Decision)(h:8<x.enc.length):x.enc[8]'h=.int x.eentry:=rfl
@[simp] theorem Decision.set8 (x:Decision)(v:Int):List.set x.enc 8 (.int v)=(Decision.mk x.no x.known x.kind x.target x.value x.eno x.ekind x.eround v x.ejudge x.eitem x.evalue x.eat x.eknown).enc:=rfl
@[simp] theorem Decision.get9 (x:Decision):x.enc[9]?=some (.int x.ejudge):=rfl
@[simp] theorem Decision.getE9 (x:Decision)(h:9<x.enc.length):x.enc[9]'h=.int x.ejudge:=rfl
@[simp] theorem Decision.set9 (x:Decision)(v:Int):List.set x.enc 9 (.int v)=(Decision.mk x.no x.known x.kind x.target x.value x.eno x.ekind x.eround x.eentry v x.eitem x.evalue x.eat x.eknown).enc:=rfl
@[simp] theorem Decision.get10 (x:Decision):x.enc[10]?=some (.int x.eitem):=rfl
@[simp] theorem Decision.getE10 (x:Decision)(h:10<x.enc.length):x.enc[10]'h=.int x.eitem:=rfl
@[simp] theorem Decision.set10 (x:Decision)(v:Int):List.set x.enc 10 (.int v)=(Decision.mk x.no x.known x.kind x.target x.value x.eno x.ekind x.eround x.eentry x.ejudge v x.evalue x.eat x.eknown).enc:=rfl
@[simp] theorem Decision.get11 (x:Decision):x.enc[11]?=some (.int x.evalue):=rfl
@[simp] theorem Decision.getE11 (x:Decision)(h:11<x.enc.length):x.enc[11]'h=.int x.evalue:=rfl
@[simp] theorem Decision.set11 (x:Decision)(v:Int):List.set x.enc 11 (.int v)=(Decision.mk x.no x.known x.kind x.target x.value x.eno x.ekind x.eround x.eentry x.ejudge x.eitem v x.eat x.eknown).enc:=rfl
@[simp] theorem Decision.get12 (x:Decision):x.enc[12]?=some (.int x.eat):=rfl
@[simp] theorem Decision.getE12 (x:Decision)(h:12<x.enc.length):x.enc[12]'h=.int x.eat:=rfl
@[simp] theorem Decision.set12 (x:Decision)(v:Int):List.set x.enc 12 (.int v)=(Decision.mk x.no x.known x.kind x.target x.value x.eno x.ekind x.eround x.eentry x.ejudge x.eitem x.evalue v x.eknown).enc:=rfl
@[simp] theorem Decision.get13 (x:Decision):x.enc[13]?=some (.int x.eknown):=rfl
@[simp] theorem Decision.getE13 (x:Decision)(h:13<x.enc.length):x.enc[13]'h=.int x.eknown:=rfl
@[simp] theorem Decision.set13 (x:Decision)(v:Int):List.set x.enc 13 (.int v)=(Decision.mk x.no x.known x.kind x.target x.value x.eno x.ekind x.eround x.eentry x.ejudge x.eitem x.evalue x.eat v).enc:=rfl
@[simp] theorem Decision.fz (b:Nat)(o:PObj)(k:Nat)(x:Decision):k4b b o k x.enc=x.enc:=rfl
@[simp] theorem Decision.fill (x y:Decision):q5j x.enc 0 y.enc=y.enc:=rfl
@[simp] theorem Decision.eq (x y:Decision):q6c [.int,.int,.int,.int,.int,.int,.int,.int,.int,.int,.int,.int,.int,.int] x.enc y.enc=some (decide (x=y)):=by
 simp [Decision.enc]
 cases x; cases y; simp [Decision.mk.injEq]
@[simp] theorem Decision.key (x:Decision):PV.vals? x.enc=some [.int .i64 x.no,.int .i64 x.known,.int .i64 x.kind,.int .i64 x.target,.int .i64 x.value,.int .i64 x.eno,.int .i64 x.ekind,.int .i64 x.eround,.int .i64 x.eentry,.int .i64 x.ejudge,.int .i64 x.eitem,.int .i64 x.evalue,.int .i64 x.eat,.int .i64 x.eknown]:=rfl
def Decision.row (l:List Decision):List PV:=l.flatMap Decision.enc
abbrev Decision.lst (t:Bool)(l:List Decision):PV:=.list t (Decision.row l) l.length
@[simp] theorem Decision.row_len (l:List Decision):(Decision.row l).length=l.length*14:=q6h Decision.enc 14 Decision.len l
@[simp] theorem Decision.row_nil:Decision.row []=[]:=rfl
@[simp] theorem Decision.row_cons (x:Decision)(l:List Decision):Decision.row (x::l)=x.enc++Decision.row l:=rfl
theorem Decision.row_append (l m:List Decision):Decision.row (l++m)=Decision.row l++Decision.row m:=by simp [Decision.row]
@[simp] theorem Decision.row_sub (l:List Decision)(i:Nat)(h:i<l.length):sub (Decision.row l) (i*14) 14=some (l[i]).enc:=q8v Decision.enc 14 Decision.len l i h
@[simp] theorem Decision.row_getE0 (l:List Decision)(i:Nat)(h:i*14<(Decision.row l).length):(Decision.row l)[i*14]'h=.int (l[i]'(by rw [Decision.row_len] at h; omega)).no:=by
 have hl:i<l.length:=by rw [Decision.row_len] at h; omega
 have:=q94 Decision.enc 14 Decision.len l i 0 hl (by omega)
 have h2:(Decision.row l)[i*14]?=some (.int l[i].no):=this
 rw [List.getElem?_eq_getElem h] at h2
 exact Option.some.inj h2
theorem Decision.row_fz (b:Nat)(o:PObj)(k:Nat)(l:List Decision):k4b b o k (Decision.row l)=Decision.row l:=z3a Decision.enc Decision.fz b o k l
attribute [simp] Decision.row_fz
abbrev Decision.event (d:Decision):Event:=⟨d.eno,d.ekind,d.eround,d.eentry,d.ejudge,d.eitem,d.evalue,d.eat,d.eknown⟩
@[simp] theorem Decision.subEv (d:Decision):sub d.enc 5 9=some d.event.enc:=rfl
def btw (n lo hi:Int):Bool:=decide (lo<=n) && decide (n<=hi)
theorem k0u (n lo hi:Int)(st:q5f):Rets P F.q1m [.int n,.int lo,.int hi] st (.bool (btw n lo hi)):=by
 refine H.q1m.pure q5n rfl rfl ?_
 simp -dsimp -implicitDefEqProofs
 simp [btw]; grind
def k28 (e:Event):Bool:=btw e.item 0 63 && btw e.value 0 1000
theorem k9h (e:Event)(st:q5f):Rets P F.q3y [e.pv] st (.bool (k28 e)):=by
 refine H.q3y.pure q5n rfl rfl ?_
 repeat' (first 
  | (with_reducible refine Fresh.intro fun b hb=>?_) <;> (try simp -dsimp -implicitDefEqProofs [*] at hb)
  | (with_reducible refine Rets.xcall (k0u ..) ?_)
  | (with_reducible refine And.intro (fun h=>?_) (fun h=>?_)) <;> (try (exfalso; omega))
  | (simp -dsimp -implicitDefEqProofs [*]))
 all_goals simp_all [k28]
def y0z:PV:=.func (.func F.q3y) [] []
theorem z8q (e:Event)(st:q5f):Rets P F.q3b [e.pv,.iptr [y0z] 0] st (.bool (e.judge == 0 && k28 e)):=by
 refine H.q3b.pure q5n rfl rfl ?_
 repeat' (first 
  | (with_reducible refine Fresh.intro fun b hb=>?_) <;> (try simp -dsimp -implicitDefEqProofs [*] at hb)
  | (with_reducible refine Rets.xcall (k9h e _) ?_)
  | (with_reducible refine And.intro (fun h=>?_) (fun h=>?_)) <;> (try (exfalso; omega))
  | (simp -dsimp -implicitDefEqProofs [y0z, *]))
 all_goals (try simp_all [k28])
theorem z8r (e:Event)(st:q5f):Rets P F.q3z [e.pv,.iptr [y0z] 0] st (.bool (btw e.judge 0 255 && k28 e)):=by
 refine H.q3z.pure q5n rfl rfl ?_
 repeat' (first 
  | (with_reducible refine Fresh.intro fun b hb=>?_) <;> (try simp -dsimp -implicitDefEqProofs [*] at hb)
  | (with_reducible refine Rets.xcall (k0u ..) ?_)
  | (with_reducible refine Rets.xcall (k9h e _) ?_)
  | (with_reducible refine And.intro (fun h=>?_) (fun h=>?_)) <;> (try (exfalso; omega))
  | (simp -dsimp -implicitDefEqProofs [y0z, *]))
 all_goals (try simp_all [k28])
theorem z8s (e:Event)(st:q5f):Rets P F.q30 [e.pv] st (.bool (e.judge == 0 && e.item == 0 && btw e.value 0 1)):=by
 refine H.q30.pure q5n rfl rfl ?_
 repeat' (first 
  | (with_reducible refine Fresh.intro fun b hb=>?_) <;> (try simp -dsimp -implicitDefEqProofs [*] at hb)
  | (with_reducible refine Rets.xcall (k0u ..) ?_)
  | (with_reducible refine And.intro (fun h=>?_) (fun h=>?_)) <;> (try (exfalso; omega))
  | (simp -dsimp -implicitDefEqProofs [*]))
 all_goals (try simp_all [k28])
def kv (f:FuncId)(cap:List PV):PV:=.agg [.func (.func f) [] cap]
def k9i:PV:=.imap [.int .i64 1,.int .i64 2,.int .i64 3,.int .i64 4]
 [kv F.q3z [.iptr [y0z] 0],kv F.q3b [.iptr [y0z] 0],kv F.q3b [.iptr [y0z] 0],kv F.q30 []]
theorem j2g (st:q5f):Rets P F.q4m [] st k9i:=by
 refine H.q4m.view q5n rfl rfl ?_
 repeat' (first 
  | (with_reducible refine Fresh.intro fun b hb=>?_) <;> (try simp -dsimp -implicitDefEqProofs [*] at hb)
  | (with_reducible refine RetView.fz 1 ?_ ?_)
  | (with_reducible refine RetView.same ?_)
  | (simp -dsimp -implicitDefEqProofs [k9i,kv,y0z, *]))
def q8c (e:Event):Bool:=
 (btw e.no 0 1048576 && btw e.round 0 7 && btw e.entry 0 4095) && (btw e.at' 0 2097151 && btw e.known 0 2097151) &&
 (if e.kind=1 then btw e.judge 0 255 && k28 e else if e.kind=2\/e.kind=3 then e.judge == 0 && k28 e else if e.kind=4 then e.judge == 0 && e.item == 0 && btw e.value 0 1 else false)
theorem j2h (e:Event)(st:q5f):Rets P F.q4n [e.pv,k9i] st (.bool (q8c e)):=by
 refine H.q4n.pure q5n rfl rfl ?_
 repeat' (first 
  | (with_reducible refine Fresh.intro fun b hb=>?_) <;> (try simp -dsimp -implicitDefEqProofs [*] at hb)
  | (with_reducible refine Rets.xcall (k0u ..) ?_)
  | (with_reducible refine Rets.xcall (z8q e _) ?_)
  | (with_reducible refine Rets.xcall (z8r e _) ?_)
  | (with_reducible refine Rets.xcall (z8s e _) ?_)
  | (with_reducible refine And.intro (fun h=>?_) (fun h=>?_)) <;> (try (exfalso; omega))
  | (simp -dsimp -implicitDefEqProofs [k9i,kv, *]))
 all_goals simp_all [q8c]
open Go.Pv
set_option maxRecDepth 100000
def ok (l:List Event):Prop:=(∀ e ∈ l,q8c e=true)/\l.Pairwise (fun a b=>a.no<b.no)
instance (l:List Event):Decidable (ok l):=inferInstanceAs (Decidable (_/\_))
theorem y00:ok []:=⟨by simp,.nil⟩
theorem z3n {l:List Event}(h:ok l)(i:Nat):ok (l.take i):=⟨fun e he=>h.1 e (List.mem_of_mem_take he),h.2.sublist (List.take_sublist _ _)⟩
theorem k29 {l:List Event}{i:Nat}(hi:i<l.length)(h:ok (l.take i)):ok (l.take (i+1)) ↔ q8c l[i]=true/\(0<i->∀ h:i-1<l.length,l[i-1].no<l[i].no):=by
 have e:l.take (i+1)=l.take i++[l[i]]:=by rw [List.take_succ_eq_append_getElem hi]
 constructor
 ·rintro⟨h1,h2⟩
  refine⟨h1 _ (by rw [e]; exact List.mem_append_right _ (by simp)),fun h0 hl=>?_⟩
  rw [e,List.pairwise_append] at h2
  refine h2.2.2 _ ?_ _ (by simp)
  rw [List.mem_iff_getElem]
  exact⟨i-1,by simp; omega,by simp⟩
 ·rintro⟨h1,h2⟩
  rw [e]
  refine⟨fun x hx=>?_, ?_⟩
  ·rcases List.mem_append.1 hx with hx | hx
   ·exact h.1 x hx
   ·simp at hx; subst hx; exact h1
  ·rw [List.pairwise_append]
   refine⟨h.2,by simp,fun x hx y hy=>?_⟩
   simp at hy; subst hy
   obtain⟨j,hj,rfl⟩:=List.mem_iff_getElem.1 hx
   have hjl:j<i:=by simp at hj; omega
   have h0:=h2 (by omega) (by omega)
   simp only [List.getElem_take]
   by_cases hji:j=i-1
   ·subst hji; exact h0
   ·have:=(List.pairwise_iff_getElem.1 h.2) j (i-1) hj (by simp; omega) (by omega)
    simp only [List.getElem_take] at this
    omega
def q8y (l:List Event):Int:=if 4096<l.length then 2 else if ok l then 0 else 490
theorem z1x (t:Bool)(l:List Event)(st:q5f):Rets P F.q34 [Event.lst t l] st (.int (q8y l)):=by
 refine H.q34.pure q5n rfl rfl ?_
 repeat' (first 
  | (with_reducible refine Rets.xcall (j2g _) ?_)
  | (with_reducible refine And.intro (fun h=>?_) (fun h=>?_)) <;> (try (exfalso; omega))
  | (simp -dsimp -implicitDefEqProofs [*]))
 ·simp [q8y]; omega
 ·refine q5h (fun i=>[(0,Event.lst t l),(3,k9i),(10,Event.lst t l),(11,.int l.length),(12,.int (i:Nat))]) (fun _=>st) (fun i=>i<=l.length/\ok (l.take i)) (fun i=>l.length-i) 0 ?_ ?_ ?_ ?_
  ·exact⟨Nat.zero_le _,by simpa using y00⟩
  ·simp
  ·exact StLe.refl _
  rintro i ⟨hi,hok⟩
  have hw:=q5i (n:=i) (by omega)
  have hw2:IntKind.i64.wrap ((i:Int)-1)=(i:Int)-1:=q5l (by omega) (by omega)
  have ht:((i:Int)-1).toNat=i-1:=by omega
  repeat' (first 
   | (with_reducible refine Fresh.intro fun b hb=>?_) <;> (try simp -dsimp -implicitDefEqProofs [*] at hb)
   | (with_reducible refine Rets.xcall (j2h _ _) ?_)
   | (with_reducible refine DrawLate.intro [] ?_)
   | (with_reducible refine And.intro (fun h=>?_) (fun h=>?_)) <;> (try (exfalso; omega))
   | ((with_reducible refine q5v ?_ fun hk=>?_); omega)
   | (simp -dsimp -implicitDefEqProofs [*]))
  ·have h2:¬ ok l:=fun hl=>by
    have:=(k29 ‹_› hok).1 (z3n hl (i+1))
    have:=this.2 ‹_› ‹_›
    omega
   simp [q8y,h2]; omega
  ·refine Next.intro (i+1) ⟨by omega,(k29 ‹_› hok).2 ⟨‹_›,fun _ _=>by omega⟩⟩ (by omega) ?_ (by simp [*])
   simp [hw]
  ·subst i
   refine Next.intro 1 ⟨by omega,(k29 ‹_› hok).2 ⟨‹_›,fun h=>by omega⟩⟩ (by omega) ?_ (by simp [*])
   simp
  ·have h2:¬ ok l:=fun hl=>by
    have:=(k29 ‹_› hok).1 (z3n hl (i+1))
    simp_all
   simp [q8y,h2]; omega
  ·rw [List.take_of_length_le ‹_›] at hok
   simp [q8y,hok]; omega
open Go.Pv
set_option maxRecDepth 100000
def z0j (a b:Int):Int:=if a<b then -1 else if b<a then 1 else 0
theorem j2i (a:Int)(st:q5f):Rets P F.q3x [.int a] st (.bool false):=by
 refine H.q3x.pure q5n rfl rfl ?_
 repeat' (simp -dsimp -implicitDefEqProofs [*])
theorem k8b (a b:Int)(st:q5f):Rets P F.q2y [.int a,.int b] st (.int (z0j a b)):=by
 refine H.q2y.pure q5n rfl rfl ?_
 repeat' (first 
  | (with_reducible refine Rets.xcall (j2i ..) ?_)
  | (with_reducible refine And.intro (fun h=>?_) (fun h=>?_)) <;> (try (exfalso; omega))
  | (simp -dsimp -implicitDefEqProofs [*]))
 all_goals (unfold z0j; grind)
theorem z8t {l:List Event}:q8y l=0 ↔ l.length<=4096/\ok l:=by
 unfold q8y
 split
 ·constructor <;> intro h <;> omega
 ·split
  ·constructor
   ·intro _; exact⟨by omega,by assumption⟩
   ·intro _; rfl
  ·constructor
   ·intro h; omega
   ·intro h; exact absurd h.2 (by assumption)
theorem y7u (e:Event):ok [e] ↔ q8c e=true:=by simp [ok]
theorem k6y (e:Event):q8y [e]=0 ↔ q8c e=true:=by
 rw [z8t,y7u]; simp
theorem z8u (t:Bool)(e:Event):PV.list t e.enc 1=Event.lst t [e]:=by simp [Event.lst]
theorem j2j (e:Event)(st:q5f):Rets P F.q4l [e.pv] st (.bool (q8c e)):=by
 refine H.q4l.pure q5n rfl rfl ?_
 have h:=k6y e
 have hb:decide (q8y [e]=0)=q8c e:=by rw [Bool.eq_iff_iff,decide_eq_true_eq,h]
 repeat' (first 
  | (with_reducible refine Fresh.intro fun b hb=>?_) <;> (try simp -dsimp -implicitDefEqProofs [*] at hb)
  | (with_reducible refine Rets.xcall (z1x _ [e] _) ?_)
  | (with_reducible refine Lit.imm ?_)
  | (simp -dsimp -implicitDefEqProofs [z8u, *]))
theorem j2k (n lo hi:Int)(st:q5f):Rets P F.q1b [.int n,.int lo,.int hi] st (.bool (btw n lo hi)):=by
 refine H.q1b.pure q5n rfl rfl ?_
 simp -dsimp -implicitDefEqProofs
 simp [btw]; grind
theorem k5t (e:Event)(st:q5f):Rets P F.q21 [e.pv] st (.bool (q8c e)):=by
 refine H.q21.pure q5n rfl rfl ?_
 repeat' (first 
  | (with_reducible refine Fresh.intro fun b hb=>?_) <;> (try simp -dsimp -implicitDefEqProofs [*] at hb)
  | (with_reducible refine Rets.xcall (j2k ..) ?_)
  | (with_reducible refine And.intro (fun h=>?_) (fun h=>?_)) <;> (try (exfalso; omega))
  | (simp -dsimp -implicitDefEqProofs [*]))
 all_goals (simp_all [q8c,k28]; try grind)
theorem j5d {l:List Event}{i:Nat}(hok:ok (l.take i))(h:i<l.length)(hr:q8c l[i]=false)(hl:l.length<=4096):490=q8y l:=by
 have h2:¬ ok l:=fun hl=>by
  have:=(k29 h hok).1 (z3n hl (i+1))
  rw [hr] at this; exact absurd this.1 (by simp)
 simp [q8y,h2]; omega
theorem j5e {l:List Event}{i:Nat}(hok:ok (l.take i))(h:i<l.length)(h0:0<i)(h1:i-1<l.length)(hr:l[i].no<=l[i-1].no)(hl:l.length<=4096):490=q8y l:=by
 have h2:¬ ok l:=fun hl=>by
  have:=(k29 h hok).1 (z3n hl (i+1))
  have:=this.2 h0 h1
  omega
 simp [q8y,h2]; omega
theorem z3o (t:Bool)(l:List Event)(st:q5f):Rets P F.q3q [Event.lst t l] st (.int (q8y l)):=by
 refine H.q3q.pure q5n rfl rfl ?_
 repeat' (first 
  | (with_reducible refine And.intro (fun h=>?_) (fun h=>?_)) <;> (try (exfalso; omega))
  | (simp -dsimp -implicitDefEqProofs [*]))
 ·simp [q8y]; omega
 ·refine q5h (fun i=>[(0,Event.lst t l),(3,.int (i:Nat))]) (fun _=>st) (fun i=>i<=l.length/\ok (l.take i)) (fun i=>l.length-i) 0 ?_ ?_ ?_ ?_
  ·exact⟨Nat.zero_le _,by simpa using y00⟩
  ·simp
  ·exact StLe.refl _
  rintro i ⟨hi,hok⟩
  have hw:=q5i (n:=i) (by omega)
  have hw2:IntKind.i64.wrap ((i:Int)-1)=(i:Int)-1:=q5l (by omega) (by omega)
  have ht:((i:Int)-1).toNat=i-1:=by omega
  repeat' (first 
   | (with_reducible refine Rets.xcall (k5t _ _) ?_)
   | (with_reducible refine DrawLate.intro [] ?_)
   | (with_reducible refine And.intro (fun h=>?_) (fun h=>?_)) <;> (try (exfalso; omega))
   | ((with_reducible refine q5v ?_ fun hk=>?_); omega)
   | (simp -dsimp -implicitDefEqProofs [*]))
  ·exact j5e hok ‹_› ‹_› ‹_› ‹_› (by omega)
  ·refine Next.intro (i+1) ⟨by omega,(k29 ‹_› hok).2 ⟨‹_›,fun _ _=>by omega⟩⟩ (by omega) ?_ (by simp)
   simp
  ·subst i
   refine Next.intro 1 ⟨by omega,(k29 ‹_› hok).2 ⟨‹_›,fun h=>by omega⟩⟩ (by omega) ?_ (by simp)
   simp
  ·exact j5d hok ‹_› ‹_› (by omega)
  ·rw [List.take_of_length_le ‹_›] at hok
   simp [q8y,hok]; omega
theorem j2l (e:Event)(st:q5f):Rets P F.q3p [e.pv] st (.bool (q8c e)):=by
 refine H.q3p.pure q5n rfl rfl ?_
 have h:=k6y e
 have hb:decide (q8y [e]=0)=q8c e:=by rw [Bool.eq_iff_iff,decide_eq_true_eq,h]
 repeat' (first 
  | (with_reducible refine Fresh.intro fun b hb=>?_) <;> (try simp -dsimp -implicitDefEqProofs [*] at hb)
  | (with_reducible refine Rets.xcall (z3o _ [e] _) ?_)
  | (with_reducible refine Lit.imm ?_)
  | (simp -dsimp -implicitDefEqProofs [z8u, *]))
abbrev zeroE:Event:=⟨0,0,0,0,0,0,0,0,0⟩
theorem q76:[PV.int 0,.int 0,.int 0,.int 0,.int 0,.int 0,.int 0,.int 0,.int 0]=zeroE.enc:=rfl
def k3a (d:Decision):Bool:=decide (0<=d.target) && decide (d.target<=1048576) && decide (d.event=zeroE)
theorem k9j (d:Decision)(st:q5f):Rets P F.q32 [d.pv] st (.bool (k3a d)):=by
 refine H.q32.pure q5n rfl rfl ?_
 repeat' (first 
  | (with_reducible refine Fresh.intro fun b hb=>?_) <;> (try simp -dsimp -implicitDefEqProofs [*] at hb)
  | (with_reducible refine And.intro (fun h=>?_) (fun h=>?_)) <;> (try (exfalso; omega))
  | (simp -dsimp -implicitDefEqProofs [q76, *]))
 all_goals (try simp_all [k3a])
 all_goals (intros; omega)
def k4u (d:Decision):Bool:=k3a d && decide (d.value=0)
def k9k (d:Decision):Bool:=k3a d && decide (0<=d.value) && decide (d.value<=1000)
def addD (d:Decision):Bool:=decide (d.target=0) && decide (d.value=0) && q8c d.event
theorem z6a (d:Decision)(st:q5f):Rets P F.q3g [d.pv] st (.bool (k4u d)):=by
 refine H.q3g.pure q5n rfl rfl ?_
 repeat' (first 
  | (with_reducible refine Fresh.intro fun b hb=>?_) <;> (try simp -dsimp -implicitDefEqProofs [*] at hb)
  | (with_reducible refine Rets.xcall (k9j _ _) ?_)
  | (with_reducible refine And.intro (fun h=>?_) (fun h=>?_)) <;> (try (exfalso; omega))
  | (simp -dsimp -implicitDefEqProofs [*]))
 all_goals (simp_all [k4u])
theorem z6b (d:Decision)(st:q5f):Rets P F.q3h [d.pv] st (.bool (k9k d)):=by
 refine H.q3h.pure q5n rfl rfl ?_
 repeat' (first 
  | (with_reducible refine Fresh.intro fun b hb=>?_) <;> (try simp -dsimp -implicitDefEqProofs [*] at hb)
  | (with_reducible refine Rets.xcall (k9j _ _) ?_)
  | (with_reducible refine And.intro (fun h=>?_) (fun h=>?_)) <;> (try (exfalso; omega))
  | (simp -dsimp -implicitDefEqProofs [*]))
 all_goals (try simp_all [k9k])
 all_goals (intros; omega)
theorem z6c (d:Decision)(st:q5f):Rets P F.q3i [d.pv] st (.bool (addD d)):=by
 refine H.q3i.pure q5n rfl rfl ?_
 repeat' (first 
  | (with_reducible refine Fresh.intro fun b hb=>?_) <;> (try simp -dsimp -implicitDefEqProofs [*] at hb)
  | (with_reducible refine Rets.xcall (j2j _ _) ?_)
  | (with_reducible refine And.intro (fun h=>?_) (fun h=>?_)) <;> (try (exfalso; omega))
  | (simp -dsimp -implicitDefEqProofs [*]))
 all_goals (simp_all [addD])
abbrev fnv (f:FuncId):PV:=.func (.func f) [] []
def allKinds:List PV:=[.val .nilFunc,.val .nilFunc,fnv F.q3g,fnv F.q42,fnv F.q3h,fnv F.q43,fnv F.q3i,fnv F.q44]
theorem z8v (st:q5f):Rets P F.q4j [] st (.agg allKinds):=by
 refine H.q4j.view q5n rfl rfl ?_
 repeat' (first 
  | (with_reducible refine Fresh.intro fun b hb=>?_) <;> (try simp -dsimp -implicitDefEqProofs [*] at hb)
  | (with_reducible refine RetView.fz 1 ?_ ?_)
  | (with_reducible refine RetView.same ?_)
  | (simp -dsimp -implicitDefEqProofs [allKinds, *]))
open Go.Pv
set_option maxRecDepth 100000
open Go.Pv
set_option maxRecDepth 100000
def q8d (d:Decision):Bool:=if d.kind=1 then k4u d else if d.kind=2 then k9k d else if d.kind=3 then addD d else false
def q7r (d:Decision):Bool:=btw d.no 0 1048576 && btw d.known 0 2097151 && q8d d
def okD (l:List Decision):Prop:=(∀ e ∈ l,q7r e=true)/\l.Pairwise (fun a b=>a.no<b.no)
instance (l:List Decision):Decidable (okD l):=inferInstanceAs (Decidable (_/\_))
def k5u (l:List Decision):Int:=match l.getLast? with | some e=>e.no | none=>-1
@[simp] theorem j5f:k5u []=-1:=rfl
@[simp] theorem k3v (l:List Decision)(x:Decision):k5u (l++[x])=x.no:=by simp [k5u]
theorem k5v {e:Decision}(h:q7r e=true):0<=e.no/\e.no<=1048576:=by
 unfold q7r btw at h
 simp at h
 omega
theorem z8w:okD []:=⟨by simp,.nil⟩
theorem j8j {l:List Decision}(h:okD l):∀ z ∈ l,z.no<=k5u l:=by
 intro z hz
 rcases List.eq_nil_or_concat l with rfl |⟨L,x,rfl⟩
 ·simp at hz
 ·rw [List.concat_eq_append] at *
  rw [k3v]
  rcases List.mem_append.1 hz with hz | hz
  ·have:=(List.pairwise_append.1 h.2).2.2 z hz x (by simp)
   omega
  ·simp at hz; subst hz; omega
theorem j01 {l:List Decision}{x:Decision}(h:okD l):okD (l++[x]) ↔ q7r x=true/\k5u l<x.no:=by
 constructor
 ·rintro⟨h1,h2⟩
  refine⟨h1 x (by simp), ?_⟩
  rcases List.eq_nil_or_concat l with rfl |⟨L,y,rfl⟩
  ·have:=k5v (h1 x (by simp)); simp; omega
  ·rw [List.concat_eq_append] at *
   rw [k3v]
   exact (List.pairwise_append.1 h2).2.2 y (by simp) x (by simp)
 ·rintro⟨h1,h2⟩
  refine⟨fun z hz=>?_,List.pairwise_append.2 ⟨h.2,by simp,fun z hz y hy=>?_⟩⟩
  ·rcases List.mem_append.1 hz with hz | hz
   ·exact h.1 z hz
   ·simp at hz; subst hz; exact h1
  ·simp at hy; subst hy
   have:=j8j h z hz
   omega
theorem j8k {l:List Decision}(h:okD l)(i:Nat):okD (l.take i):=⟨fun e he=>h.1 e (List.mem_of_mem_take he),h.2.sublist (List.take_sublist _ _)⟩
theorem z3p {l:List Decision}{i:Nat}(hi:i<l.length)(h:okD (l.take i)):okD (l.take (i+1)) ↔ q7r l[i]=true/\k5u (l.take i)<l[i].no:=by
 rw [List.take_succ_eq_append_getElem hi]
 exact j01 h
def q86 (l:List Decision):Int:=if 4096<l.length then 2 else if okD l then 0 else 510
theorem k4v {l:List Decision}:q86 l=0 ↔ l.length<=4096/\okD l:=by
 unfold q86
 split
 ·constructor <;> intro h <;> omega
 ·split
  ·constructor
   ·intro _; exact⟨by omega,by assumption⟩
   ·intro _; rfl
  ·constructor
   ·intro h; omega
   ·intro h; exact absurd h.2 (by assumption)
theorem z6d {l:List Decision}{i:Nat}(hi:i<l.length)(h:okD (l.take i))(hl:l.length<=4096)(hn:q7r l[i]=false\/l[i].no<=k5u (l.take i)):q86 l=510:=by
 have h2:¬ okD l:=fun hk=>by
  have:=(z3p hi h).1 (j8k hk (i+1))
  rcases hn with hn | hn
  ·rw [hn] at this; exact absurd this.1 (by simp)
  ·omega
 rw [q86,if_neg (by omega),if_neg h2]
theorem z1y {l:List Decision}{i:Nat}(hi:i<l.length):k5u (l.take (i+1))=l[i].no:=by
 rw [List.take_succ_eq_append_getElem hi,k3v]
theorem z8x {l:List Decision}(h:okD l):-1<=k5u l:=by
 rcases List.eq_nil_or_concat l with rfl |⟨L,y,rfl⟩
 ·simp
 ·rw [List.concat_eq_append] at *
  rw [k3v]
  have:=k5v (h.1 y (by simp))
  omega
theorem k3w {d:Decision}(h:d.kind<1\/3<d.kind\/1048576<d.no\/d.known<0\/2097152<=d.known):q7r d=false:=by
 unfold q7r btw q8d
 rcases h with h | h | h | h | h
 ·have:¬ d.kind=1/\¬ d.kind=2/\¬ d.kind=3:=by omega
  simp [this]
 ·have:¬ d.kind=1/\¬ d.kind=2/\¬ d.kind=3:=by omega
  simp [this]
 all_goals simp
 all_goals (intros; omega)
theorem k9l {d:Decision}{last:Int}(h0:-1<=last)(h1:last<d.no)(h2:d.no<=1048576)(h3:0<=d.known)(h4:d.known<2097152):q7r d=q8d d:=by
 unfold q7r btw
 have:0<=d.no/\d.known<=2097151:=by omega
 simp [*]
@[simp] theorem y01:allKinds.length=8:=rfl
theorem z8y (t:Bool)(l:List Decision)(st:q5f):Rets P F.q4e [Decision.lst t l] st (.int (q86 l)):=by
 refine H.q4e.pure q5n rfl rfl ?_
 repeat' (first 
  | (with_reducible refine Fresh.intro fun b hb=>?_) <;> (try simp -dsimp -implicitDefEqProofs [*] at hb)
  | (with_reducible refine Rets.xcall (z8v _) ?_)
  | (with_reducible refine And.intro (fun h=>?_) (fun h=>?_)) <;> (try (exfalso; omega))
  | (simp -dsimp -implicitDefEqProofs [*]))
 ·simp [q86]; omega
 ·refine q5h (fun i=>[(0,Decision.lst t l),(3,.ptr b 0),(4,.int (k5u (l.take i))),(11,Decision.lst t l),(12,.int l.length),(13,.int (i:Nat))]) (fun _=>(b,.arr T.q48 allKinds)::st) (fun i=>i<=l.length/\okD (l.take i)) (fun i=>l.length-i) 0 ?_ ?_ ?_ ?_
  ·exact⟨Nat.zero_le _,by simpa using z8w⟩
  ·simp
  ·exact StLe.refl _
  rintro i ⟨hi,hok⟩
  have hw:=q5i (n:=i) (by omega)
  have hlr:=z8x hok
  have hno:=fun (hil:i<l.length) hn=>(z6d hil hok (by omega) hn)
  have hst:=fun (hil:i<l.length)=>(z3p hil hok)
  have hls:=fun (hil:i<l.length)=>(z1y hil)
  have hfin:l.length<=i->q86 l=0:=fun h=>by rw [List.take_of_length_le h] at hok; exact (k4v.2 ⟨by omega,hok⟩)
  clear hok
  generalize hlast:k5u (l.take i)=last at *
  by_cases hil:i<l.length
  ·replace hno:=hno hil
   replace hst:=hst hil
   replace hls:=hls hil
   clear hfin
   generalize hd:l[i]=d at *
   have hk4:d.kind=1\/d.kind=2\/d.kind=3\/d.kind<1\/3<d.kind:=by omega
   have fin:last<d.no->d.no<=1048576->0<=d.known->d.known<2097152->q8d d=true->okD (l.take (i+1)):=fun h1 h2 h3 h4 h5=>hst.2 ⟨by rw [k9l hlr h1 h2 h3 h4]; exact h5,h1⟩
   have bad:last<d.no->d.no<=1048576->0<=d.known->d.known<2097152->q8d d=false->q86 l=510:=fun h1 h2 h3 h4 h5=>hno (.inl (by rw [k9l hlr h1 h2 h3 h4]; exact h5))
   have out:d.kind<1\/3<d.kind\/1048576<d.no\/d.known<0\/2097152<=d.known->q86 l=510:=fun h=>hno (.inl (k3w h))
   have low:d.no<=last->q86 l=510:=fun h=>hno (.inr h)
   clear hst hno
   rcases hk4 with hk1 | hk1 | hk1 | hk1 | hk1
   ·have hr:q8d d=k4u d:=by simp [q8d,hk1]
    rw [hr] at fin bad
    repeat' (first 
     | (with_reducible refine Fresh.intro fun b hb=>?_) <;> (try simp -dsimp -implicitDefEqProofs [*] at hb)
     | (with_reducible refine Rets.xcall (z6a _ _) ?_)
     | (with_reducible refine DrawLate.intro [] ?_)
     | (with_reducible refine And.intro (fun h=>?_) (fun h=>?_)) <;> (try (exfalso; omega))
     | (simp -dsimp -implicitDefEqProofs [allKinds, *]))
    refine Next.intro (i+1) ⟨by omega,fin ‹_› ‹_› ‹_› ‹_› ‹_›⟩ (by omega) (by simp [*]) ?_
    exact StLe.fresh (by simp [*])
   ·have hr:q8d d=k9k d:=by simp [q8d,hk1]
    rw [hr] at fin bad
    repeat' (first 
     | (with_reducible refine Fresh.intro fun b hb=>?_) <;> (try simp -dsimp -implicitDefEqProofs [*] at hb)
     | (with_reducible refine Rets.xcall (z6b _ _) ?_)
     | (with_reducible refine DrawLate.intro [] ?_)
     | (with_reducible refine And.intro (fun h=>?_) (fun h=>?_)) <;> (try (exfalso; omega))
     | (simp -dsimp -implicitDefEqProofs [allKinds, *]))
    refine Next.intro (i+1) ⟨by omega,fin ‹_› ‹_› ‹_› ‹_› ‹_›⟩ (by omega) (by simp [*]) ?_
    exact StLe.fresh (by simp [*])
   ·have hr:q8d d=addD d:=by simp [q8d,hk1]
    rw [hr] at fin bad
    repeat' (first 
     | (with_reducible refine Fresh.intro fun b hb=>?_) <;> (try simp -dsimp -implicitDefEqProofs [*] at hb)
     | (with_reducible refine Rets.xcall (z6c _ _) ?_)
     | (with_reducible refine DrawLate.intro [] ?_)
     | (with_reducible refine And.intro (fun h=>?_) (fun h=>?_)) <;> (try (exfalso; omega))
     | (simp -dsimp -implicitDefEqProofs [allKinds, *]))
    refine Next.intro (i+1) ⟨by omega,fin ‹_› ‹_› ‹_› ‹_› ‹_›⟩ (by omega) (by simp [*]) ?_
    exact StLe.fresh (by simp [*])
   ·repeat' (first 
     | (with_reducible refine Fresh.intro fun b hb=>?_) <;> (try simp -dsimp -implicitDefEqProofs [*] at hb)
     | (with_reducible refine DrawLate.intro [] ?_)
     | (simp -dsimp -implicitDefEqProofs [*]))
    all_goals done
   ·repeat' (first 
     | (with_reducible refine Fresh.intro fun b hb=>?_) <;> (try simp -dsimp -implicitDefEqProofs [*] at hb)
     | (with_reducible refine DrawLate.intro [] ?_)
     | (simp -dsimp -implicitDefEqProofs [*]))
    all_goals done
  ·repeat' (simp -dsimp -implicitDefEqProofs [*])
   exact (hfin (by omega)).symm
open Go.Pv Go.Pv.Cd
set_option maxRecDepth 100000
set_option maxHeartbeats 4000000
structure Note where
 kind:Int
 ev:Event
 dec:Decision
 deriving DecidableEq,Inhabited
def Event.ints (e:Event):List Int:=[e.no,e.kind,e.round,e.entry,e.judge,e.item,e.value,e.at',e.known]
def Decision.ints (d:Decision):List Int:=[d.no,d.known,d.kind,d.target,d.value,d.eno,d.ekind,d.eround,d.eentry,d.ejudge,d.eitem,d.evalue,d.eat,d.eknown]
def Note.enc (x:Note):List PV:=.int x.kind::(x.ev.enc++x.dec.enc)
abbrev Note.pv (x:Note):PV:=.agg x.enc
section
variable (x:Note) (b k:Nat) (o:PObj)
@[simp] theorem Note.len:x.enc.length=24:=rfl
@[simp] theorem Note.sub_all:sub x.enc 0 24=some x.enc:=rfl
@[simp] theorem Note.get0:x.enc[0]?=some (.int x.kind):=rfl
@[simp] theorem Note.getE0 (h:0<x.enc.length):x.enc[0]'h=.int x.kind:=rfl
@[simp] theorem Note.subEv:sub x.enc 1 9=some x.ev.enc:=rfl
@[simp] theorem Note.subDec:sub x.enc 10 14=some x.dec.enc:=rfl
@[simp] theorem Note.fz:k4b b o k x.enc=x.enc:=by simp [Note.enc,Event.enc,Decision.enc]
end
def Note.row (l:List Note):List PV:=l.flatMap Note.enc
abbrev Note.lst (t:Bool)(l:List Note):PV:=.list t (Note.row l) l.length
@[simp] theorem Note.row_len (l:List Note):(Note.row l).length=l.length*24:=q6h Note.enc 24 Note.len l
@[simp] theorem Note.row_nil:Note.row []=[]:=rfl
@[simp] theorem Note.row_cons (x:Note)(l:List Note):Note.row (x::l)=x.enc++Note.row l:=rfl
@[simp] theorem Note.row_eq_nil (l:List Note):Note.row l=[] ↔ l=[]:=by
 constructor
 ·intro h
  have:=congrArg List.length h
  rw [Note.row_len] at this
  cases l with
  | nil=>rfl
  | cons=>simp at this
 ·rintro rfl; rfl
theorem Note.row_append (l m:List Note):Note.row (l++m)=Note.row l++Note.row m:=by simp [Note.row]
@[simp] theorem Note.row_sub (l:List Note)(i:Nat)(h:i<l.length):sub (Note.row l) (i*24) 24=some (l[i]).enc:=q8v Note.enc 24 Note.len l i h
@[simp] theorem Note.row_fz (b:Nat)(o:PObj)(k:Nat)(l:List Note):k4b b o k (Note.row l)=Note.row l:=z3a Note.enc (fun b o k x=>Note.fz x b k o) b o k l
def Note.ints (n:Note):List Int:=n.kind::(n.ev.ints++n.dec.ints)
def q8e (l:List Int):Note:=⟨l.getD 0 0,⟨l.getD 1 0,l.getD 2 0,l.getD 3 0,l.getD 4 0,l.getD 5 0,l.getD 6 0,l.getD 7 0,l.getD 8 0,l.getD 9 0⟩,⟨l.getD 10 0,l.getD 11 0,l.getD 12 0,l.getD 13 0,l.getD 14 0,l.getD 15 0,l.getD 16 0,l.getD 17 0,l.getD 18 0,l.getD 19 0,l.getD 20 0,l.getD 21 0,l.getD 22 0,l.getD 23 0⟩⟩
@[simp] theorem Note.ints_len (n:Note):n.ints.length=24:=rfl
theorem Note.enc_ints (n:Note):n.enc=n.ints.map fun x=>PV.int x:=rfl
theorem k4w (n:Note):q8e n.ints=n:=rfl
theorem k4x {l:List Int}(h:l.length=24):(q8e l).ints=l:=by
 match l,h with
 | [_,_,_,_,_,_,_,_,_,_,_,_,_,_,_,_,_,_,_,_,_,_,_,_],_=>rfl
def zeroD:Decision:=⟨0,0,0,0,0,0,0,0,0,0,0,0,0,0⟩
def q5q (n:Note):Bool:=if n.kind=1 then q8c n.ev && decide (n.dec=zeroD) else decide (n.kind=2) && q7r n.dec && decide (n.ev=zeroE)
abbrev Sml (x:Int):Prop:=0<=x/\x<=2097152
theorem k9m {e:Event}(h:q8c e=true):∀ x ∈ e.ints,Sml x:=by
 unfold q8c k28 btw at h
 simp only [Bool.and_eq_true,decide_eq_true_eq] at h
 unfold Event.ints
 simp only [List.forall_mem_cons]
 split at h
 ·simp only [Bool.and_eq_true,decide_eq_true_eq] at h
  refine⟨?_, ?_, ?_, ?_, ?_, ?_, ?_, ?_, ?_,fun x hx=>absurd hx List.not_mem_nil⟩ <;> refine⟨?_, ?_⟩ <;> omega
 ·split at h
  ·simp only [Bool.and_eq_true,decide_eq_true_eq,beq_iff_eq] at h
   refine⟨?_, ?_, ?_, ?_, ?_, ?_, ?_, ?_, ?_,fun x hx=>absurd hx List.not_mem_nil⟩ <;> refine⟨?_, ?_⟩ <;> omega
  ·split at h
   ·simp only [Bool.and_eq_true,decide_eq_true_eq,beq_iff_eq] at h
    refine⟨?_, ?_, ?_, ?_, ?_, ?_, ?_, ?_, ?_,fun x hx=>absurd hx List.not_mem_nil⟩ <;> refine⟨?_, ?_⟩ <;> omega
   ·simp at h
theorem k4y:∀ x ∈ zeroE.ints,Sml x:=by decide
theorem z8z:∀ x ∈ zeroD.ints,Sml x:=by decide
theorem j8l (d:Decision):d.ints=[d.no,d.known,d.kind,d.target,d.value]++d.event.ints:=rfl
theorem z80 {d:Decision}(h:q7r d=true):∀ x ∈ d.ints,Sml x:=by
 unfold q7r btw at h
 simp only [Bool.and_eq_true,decide_eq_true_eq] at h
 obtain⟨⟨⟨a1,a2⟩,a3,a4⟩,hr⟩:=h
 have key:Sml d.kind/\Sml d.target/\Sml d.value/\∀ x ∈ d.event.ints,Sml x:=by
  unfold q8d at hr
  have tz:k3a d=true->Sml d.target/\d.event=zeroE:=fun hd=>by
   unfold k3a at hd
   simp only [Bool.and_eq_true,decide_eq_true_eq] at hd
   exact⟨⟨hd.1.1,by omega⟩,hd.2⟩
  split at hr
  ·rename_i hd
   unfold k4u at hr
   simp only [Bool.and_eq_true,decide_eq_true_eq] at hr
   obtain⟨t1,t2⟩:=tz hr.1
   have v:=hr.2
   exact⟨⟨by omega,by omega⟩,t1,⟨by omega,by omega⟩,by rw [t2]; exact k4y⟩
  ·split at hr
   ·rename_i hd
    unfold k9k at hr
    simp only [Bool.and_eq_true,decide_eq_true_eq] at hr
    obtain⟨t1,t2⟩:=tz hr.1.1
    have v1:=hr.1.2
    have v2:=hr.2
    exact⟨⟨by omega,by omega⟩,t1,⟨by omega,by omega⟩,by rw [t2]; exact k4y⟩
   ·split at hr
    ·rename_i hd
     unfold addD at hr
     simp only [Bool.and_eq_true,decide_eq_true_eq] at hr
     have t1:=hr.1.1
     have v1:=hr.1.2
     exact⟨⟨by omega,by omega⟩,⟨by omega,by omega⟩,⟨by omega,by omega⟩,k9m hr.2⟩
    ·cases hr
 rw [j8l]
 intro x hx
 rcases List.mem_append.1 hx with hx | hx
 ·simp only [List.mem_cons,List.not_mem_nil,or_false] at hx
  rcases hx with rfl | rfl | rfl | rfl | rfl
  ·exact⟨a1,by omega⟩
  ·exact⟨a3,by omega⟩
  ·exact key.1
  ·exact key.2.1
  ·exact key.2.2.1
 ·exact key.2.2.2 x hx
theorem k0v {n:Note}(h:q5q n=true):∀ x ∈ n.ints,0<=x/\x<=2097152:=by
 unfold q5q at h
 unfold Note.ints
 intro x hx
 split at h
 ·rename_i hk
  simp only [Bool.and_eq_true,decide_eq_true_eq] at h
  rcases List.mem_cons.1 hx with rfl | hx
  ·omega
  ·rcases List.mem_append.1 hx with hx | hx
   ·exact k9m h.1 x hx
   ·rw [h.2] at hx; exact z8z x hx
 ·simp only [Bool.and_eq_true,decide_eq_true_eq] at h
  rcases List.mem_cons.1 hx with rfl | hx
  ·omega
  ·rcases List.mem_append.1 hx with hx | hx
   ·rw [h.2] at hx; exact k4y x hx
   ·exact z80 h.1.2 x hx
def y44 (n:Note):Vl:=.list (n.ints.map .int)
def msg (n:Note):List (BitVec 8):=(y44 n).enc
theorem z6e {d:Nat}:∀ {l:List Int},(∀ x ∈ l, -9223372036854775808<=x/\x<9223372036854775808)->Vl.fits d (l.map .int)
 | [],_=>trivial
 | x::l,h=>⟨by simp only [Vl.fit]; exact h x (List.mem_cons_self ..),z6e fun y hy=>h y (List.mem_cons_of_mem _ hy)⟩
theorem y2r {n:Note}(h:q5q n=true):(y44 n).fit 16:=by
 unfold y44
 rw [Vl.fit]
 refine⟨by rw [List.length_map,Note.ints_len]; decide,z6e fun x hx=>?_⟩
 have:=k0v h x hx
 omega
def q85:List Vl->Option (List Int)
 | []=>some []
 | .int x::l=>(q85 l).map (x::·)
 | _::_=>none
theorem z6f:∀ l:List Int,q85 (l.map .int)=some l
 | []=>rfl
 | x::l=>by rw [List.map_cons,q85,z6f l]; rfl
theorem k5w:∀ {l:List Vl} {k:List Int},q85 l=some k->l=k.map .int
 | [],k,h=>by simp only [q85,Option.some.injEq] at h; subst h; rfl
 | .int x::l,k,h=>by
  rw [q85] at h
  cases e:q85 l with
  | none=>rw [e] at h; cases h
  | some k'=>
   rw [e] at h
   simp only [Option.map_some,Option.some.injEq] at h
   subst h
   rw [List.map_cons,k5w e]
 | .text s::l,k,h=>by simp [q85] at h
 | .list s::l,k,h=>by simp [q85] at h
def q8f (b:List (BitVec 8)):Option Note:=match Go.Pv.Cd.decode b with
 | some (.list l)=>match q85 l with
  | some k=>if k.length=24/\q5q (q8e k)=true then some (q8e k) else none
  | none=>none
 | _=>none
theorem k3x {n:Note}(h:q5q n=true):q8f (msg n)=some n:=by
 unfold q8f msg
 rw [j2d (y2r h)]
 unfold y44
 simp only
 rw [z6f]
 simp only [Note.ints_len,k4w,true_and]
 rw [if_pos h]
theorem k8c {b:List (BitVec 8)}{n:Note}(h:q8f b=some n):q5q n=true/\b=msg n:=by
 unfold q8f at h
 split at h
 ·rename_i l e
  split at h
  ·rename_i k e2
   split at h
   ·rename_i hc
    simp only [Option.some.injEq] at h
    subst h
    refine⟨hc.2, ?_⟩
    rw [(j2e e).1,k5w e2]
    unfold msg y44
    rw [k4x hc.1]
   ·cases h
  ·cases h
 ·cases h
def toU (l:List (BitVec 8)):List UInt8:=l.map UInt8.ofBitVec
theorem y2s {l m:List (BitVec 8)}(h:toU l=toU m):l=m:=by
 have:=congrArg (fun q=>q.map UInt8.toBitVec) h
 simpa [toU,Function.comp_def] using this
def q6p (a b:Note):Int:=Lib.compareBytes (toU (msg a)) (toU (msg b))
theorem cmpN_ord:Cmp q6p fun n=>q5q n=true where
 self a:=z1q _
 eq a b ha hb h:=by
  have e:=y2s (j0w h)
  have:=k3x ha
  rw [e,k3x hb] at this
  exact (Option.some.inj this).symm
 swap a b:=z1r _ _
 trans a b d h k:=k9d h k
open Go.Pv
set_option maxRecDepth 100000
set_option maxHeartbeats 4000000
abbrev y7v (s:ByteArray):List (BitVec 8):=s.data.toList.map (·.toBitVec)
theorem j8m (s:ByteArray):(y7v s).length=s.size:=by rw [List.length_map]; rfl
end Go.Proofs.YtmlmoaimjifpgaaGreat
