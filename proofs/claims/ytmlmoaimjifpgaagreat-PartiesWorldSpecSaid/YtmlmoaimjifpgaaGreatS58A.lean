/- The record's kinds of events: small functions. -/
import Derived.Test.YtmlmoaimjifpgaaGreatCode
import Derived.Test.YtmlmoaimjifpgaaGreatLLo
import Derived.Test.YtmlmoaimjifpgaaGreatLVf
namespace Go.Proofs.YtmlmoaimjifpgaaGreat
open Go.Pv
set_option maxRecDepth 100000
structure Event where
 no:Int
 kind:Int
 round:Int
 entry:Int
 judge:Int
 item:Int
 value:Int
 at':Int
 known:Int
 deriving DecidableEq,Inhabited
def Event.enc (x:Event):List PV:=[.int x.no,.int x.kind,.int x.round,.int x.entry,.int x.judge,.int x.item,.int x.value,.int x.at',.int x.known]
abbrev Event.pv (x:Event):PV:=.agg x.enc
@[simp] theorem Event.len (x:Event):x.enc.length=9:=rfl
@[simp] theorem Event.subAll (x:Event):sub x.enc 0 9=some x.enc:=rfl
@[simp] theorem Event.get0 (x:Event):x.enc[0]?=some (.int x.no):=rfl
@[simp] theorem Event.getE0 (x:Event)(h:0<x.enc.length):x.enc[0]'h=.int x.no:=rfl
@[simp] theorem Event.set0 (x:Event)(v:Int):List.set x.enc 0 (.int v)=(Event.mk v x.kind x.round x.entry x.judge x.item x.value x.at' x.known).enc:=rfl
@[simp] theorem Event.get1 (x:Event):x.enc[1]?=some (.int x.kind):=rfl
@[simp] theorem Event.getE1 (x:Event)(h:1<x.enc.length):x.enc[1]'h=.int x.kind:=rfl
@[simp] theorem Event.set1 (x:Event)(v:Int):List.set x.enc 1 (.int v)=(Event.mk x.no v x.round x.entry x.judge x.item x.value x.at' x.known).enc:=rfl
@[simp] theorem Event.get2 (x:Event):x.enc[2]?=some (.int x.round):=rfl
@[simp] theorem Event.getE2 (x:Event)(h:2<x.enc.length):x.enc[2]'h=.int x.round:=rfl
@[simp] theorem Event.set2 (x:Event)(v:Int):List.set x.enc 2 (.int v)=(Event.mk x.no x.kind v x.entry x.judge x.item x.value x.at' x.known).enc:=rfl
@[simp] theorem Event.get3 (x:Event):x.enc[3]?=some (.int x.entry):=rfl
@[simp] theorem Event.getE3 (x:Event)(h:3<x.enc.length):x.enc[3]'h=.int x.entry:=rfl
@[simp] theorem Event.set3 (x:Event)(v:Int):List.set x.enc 3 (.int v)=(Event.mk x.no x.kind x.round v x.judge x.item x.value x.at' x.known).enc:=rfl
@[simp] theorem Event.get4 (x:Event):x.enc[4]?=some (.int x.judge):=rfl
@[simp] theorem Event.getE4 (x:Event)(h:4<x.enc.length):x.enc[4]'h=.int x.judge:=rfl
@[simp] theorem Event.set4 (x:Event)(v:Int):List.set x.enc 4 (.int v)=(Event.mk x.no x.kind x.round x.entry v x.item x.value x.at' x.known).enc:=rfl
@[simp] theorem Event.get5 (x:Event):x.enc[5]?=some (.int x.item):=rfl
@[simp] theorem Event.getE5 (x:Event)(h:5<x.enc.length):x.enc[5]'h=.int x.item:=rfl
@[simp] theorem Event.set5 (x:Event)(v:Int):List.set x.enc 5 (.int v)=(Event.mk x.no x.kind x.round x.entry x.judge v x.value x.at' x.known).enc:=rfl
@[simp] theorem Event.get6 (x:Event):x.enc[6]?=some (.int x.value):=rfl
@[simp] theorem Event.getE6 (x:Event)(h:6<x.enc.length):x.enc[6]'h=.int x.value:=rfl
@[simp] theorem Event.set6 (x:Event)(v:Int):List.set x.enc 6 (.int v)=(Event.mk x.no x.kind x.round x.entry x.judge x.item v x.at' x.known).enc:=rfl
@[simp] theorem Event.get7 (x:Event):x.enc[7]?=some (.int x.at'):=rfl
@[simp] theorem Event.getE7 (x:Event)(h:7<x.enc.length):x.enc[7]'h=.int x.at':=rfl
@[simp] theorem Event.set7 (x:Event)(v:Int):List.set x.enc 7 (.int v)=(Event.mk x.no x.kind x.round x.entry x.judge x.item x.value v x.known).enc:=rfl
@[simp] theorem Event.get8 (x:Event):x.enc[8]?=some (.int x.known):=rfl
@[simp] theorem Event.getE8 (x:Event)(h:8<x.enc.length):x.enc[8]'h=.int x.known:=rfl
@[simp] theorem Event.set8 (x:Event)(v:Int):List.set x.enc 8 (.int v)=(Event.mk x.no x.kind x.round x.entry x.judge x.item x.value x.at' v).enc:=rfl
@[simp] theorem Event.fz (b:Nat)(o:PObj)(k:Nat)(x:Event):k34 b o k x.enc=x.enc:=rfl
@[simp] theorem Event.fill (x y:Event):q5g x.enc 0 y.enc=y.enc:=rfl
@[simp] theorem Event.eq (x y:Event):q52 [.int,.int,.int,.int,.int,.int,.int,.int,.int] x.enc y.enc=some (decide (x=y)):=by
 simp [Event.enc]
 cases x; cases y; simp [Event.mk.injEq]
@[simp] theorem Event.key (x:Event):PV.vals? x.enc=some [.int .i64 x.no,.int .i64 x.kind,.int .i64 x.round,.int .i64 x.entry,.int .i64 x.judge,.int .i64 x.item,.int .i64 x.value,.int .i64 x.at',.int .i64 x.known]:=rfl
def Event.row (l:List Event):List PV:=l.flatMap Event.enc
abbrev Event.lst (t:Bool)(l:List Event):PV:=.list t (Event.row l) l.length
@[simp] theorem Event.row_len (l:List Event):(Event.row l).length=l.length*9:=q53 Event.enc 9 Event.len l
@[simp] theorem Event.row_nil:Event.row []=[]:=rfl
@[simp] theorem Event.row_cons (x:Event)(l:List Event):Event.row (x::l)=x.enc++Event.row l:=rfl
theorem Event.row_append (l m:List Event):Event.row (l++m)=Event.row l++Event.row m:=by simp [Event.row]
@[simp] theorem Event.row_sub (l:List Event)(i:Nat)(h:i<l.length):sub (Event.row l) (i*9) 9=some (l[i]).enc:=q7i Event.enc 9 Event.len l i h
theorem Event.row_drop (l:List Event)(i:Nat):(Event.row l).drop (i*9)=Event.row (l.drop i):=k09 Event.enc 9 Event.len l i
theorem Event.row_take (l:List Event)(i:Nat):(Event.row l).take (i*9)=Event.row (l.take i):=k5k Event.enc 9 Event.len l i
@[simp] theorem Event.row_getE0 (l:List Event)(i:Nat)(h:i*9<(Event.row l).length):(Event.row l)[i*9]'h=.int (l[i]'(by rw [Event.row_len] at h; omega)).no:=by
 have hl:i<l.length:=by rw [Event.row_len] at h; omega
 have:=k3h Event.enc 9 Event.len l i 0 hl (by omega)
 have h2:(Event.row l)[i*9]?=some (.int l[i].no):=this
 rw [List.getElem?_eq_getElem h] at h2
 exact Option.some.inj h2
theorem Event.row_fz (b:Nat)(o:PObj)(k:Nat)(l:List Event):k34 b o k (Event.row l)=Event.row l:=z3k Event.enc Event.fz b o k l
attribute [simp] Event.row_fz
structure Decision where
 no:Int
 known:Int
 kind:Int
 target:Int
 value:Int
 eno:Int
 ekind:Int
 eround:Int
 eentry:Int
 ejudge:Int
 eitem:Int
 evalue:Int
 eat:Int
 eknown:Int
 deriving DecidableEq,Inhabited
def Decision.enc (x:Decision):List PV:=[.int x.no,.int x.known,.int x.kind,.int x.target,.int x.value,.int x.eno,.int x.ekind,.int x.eround,.int x.eentry,.int x.ejudge,.int x.eitem,.int x.evalue,.int x.eat,.int x.eknown]
abbrev Decision.pv (x:Decision):PV:=.agg x.enc
@[simp] theorem Decision.len (x:Decision):x.enc.length=14:=rfl
@[simp] theorem Decision.subAll (x:Decision):sub x.enc 0 14=some x.enc:=rfl
@[simp] theorem Decision.get0 (x:Decision):x.enc[0]?=some (.int x.no):=rfl
@[simp] theorem Decision.getE0 (x:Decision)(h:0<x.enc.length):x.enc[0]'h=.int x.no:=rfl
@[simp] theorem Decision.set0 (x:Decision)(v:Int):List.set x.enc 0 (.int v)=(Decision.mk v x.known x.kind x.target x.value x.eno x.ekind x.eround x.eentry x.ejudge x.eitem x.evalue x.eat x.eknown).enc:=rfl
@[simp] theorem Decision.get1 (x:Decision):x.enc[1]?=some (.int x.known):=rfl
@[simp] theorem Decision.getE1 (x:Decision)(h:1<x.enc.length):x.enc[1]'h=.int x.known:=rfl
@[simp] theorem Decision.set1 (x:Decision)(v:Int):List.set x.enc 1 (.int v)=(Decision.mk x.no v x.kind x.target x.value x.eno x.ekind x.eround x.eentry x.ejudge x.eitem x.evalue x.eat x.eknown).enc:=rfl
@[simp] theorem Decision.get2 (x:Decision):x.enc[2]?=some (.int x.kind):=rfl
@[simp] theorem Decision.getE2 (x:Decision)(h:2<x.enc.length):x.enc[2]'h=.int x.kind:=rfl
@[simp] theorem Decision.set2 (x:Decision)(v:Int):List.set x.enc 2 (.int v)=(Decision.mk x.no x.known v x.target x.value x.eno x.ekind x.eround x.eentry x.ejudge x.eitem x.evalue x.eat x.eknown).enc:=rfl
@[simp] theorem Decision.get3 (x:Decision):x.enc[3]?=some (.int x.target):=rfl
@[simp] theorem Decision.getE3 (x:Decision)(h:3<x.enc.length):x.enc[3]'h=.int x.target:=rfl
@[simp] theorem Decision.set3 (x:Decision)(v:Int):List.set x.enc 3 (.int v)=(Decision.mk x.no x.known x.kind v x.value x.eno x.ekind x.eround x.eentry x.ejudge x.eitem x.evalue x.eat x.eknown).enc:=rfl
@[simp] theorem Decision.get4 (x:Decision):x.enc[4]?=some (.int x.value):=rfl
@[simp] theorem Decision.getE4 (x:Decision)(h:4<x.enc.length):x.enc[4]'h=.int x.value:=rfl
@[simp] theorem Decision.set4 (x:Decision)(v:Int):List.set x.enc 4 (.int v)=(Decision.mk x.no x.known x.kind x.target v x.eno x.ekind x.eround x.eentry x.ejudge x.eitem x.evalue x.eat x.eknown).enc:=rfl
@[simp] theorem Decision.get5 (x:Decision):x.enc[5]?=some (.int x.eno):=rfl
@[simp] theorem Decision.getE5 (x:Decision)(h:5<x.enc.length):x.enc[5]'h=.int x.eno:=rfl
@[simp] theorem Decision.set5 (x:Decision)(v:Int):List.set x.enc 5 (.int v)=(Decision.mk x.no x.known x.kind x.target x.value v x.ekind x.eround x.eentry x.ejudge x.eitem x.evalue x.eat x.eknown).enc:=rfl
@[simp] theorem Decision.get6 (x:Decision):x.enc[6]?=some (.int x.ekind):=rfl
@[simp] theorem Decision.getE6 (x:Decision)(h:6<x.enc.length):x.enc[6]'h=.int x.ekind:=rfl
@[simp] theorem Decision.set6 (x:Decision)(v:Int):List.set x.enc 6 (.int v)=(Decision.mk x.no x.known x.kind x.target x.value x.eno v x.eround x.eentry x.ejudge x.eitem x.evalue x.eat x.eknown).enc:=rfl
@[simp] theorem Decision.get7 (x:Decision):x.enc[7]?=some (.int x.eround):=rfl
@[simp] theorem Decision.getE7 (x:Decision)(h:7<x.enc.length):x.enc[7]'h=.int x.eround:=rfl
@[simp] theorem Decision.set7 (x:Decision)(v:Int):List.set x.enc 7 (.int v)=(Decision.mk x.no x.known x.kind x.target x.value x.eno x.ekind v x.eentry x.ejudge x.eitem x.evalue x.eat x.eknown).enc:=rfl
@[simp] theorem Decision.get8 (x:Decision):x.enc[8]?=some (.int x.eentry):=rfl
@[simp] theorem Decision.getE8 (x:Decision)(h:8<x.enc.length):x.enc[8]'h=.int x.eentry:=rfl
@[simp] theorem Decision.set8 (x:Decision)(v:Int):List.set x.enc 8 (.int v)=(Decision.mk x.no x.known x.kind x.target x.value x.eno x.ekind x.eround v x.ejudge x.eitem x.evalue x.eat x.eknown).enc:=rfl
@[simp] theorem Decision.get9 (x:Decision):x.enc[9]?=some (.int x.ejudge):=rfl
@[simp] theorem Decision.getE9 (x:Decision)(h:9<x.enc.length):x.enc[9]'h=.int x.ejudge:=rfl
@[simp] theorem Decision.set9 (x:Decision)(v:Int):List.set x.enc 9 (.int v)=(Decision.mk x.no x.known x.kind x.target x.value x.eno x.ekind x.eround x.eentry v x.eitem x.evalue x.eat x.eknown).enc:=rfl
@[simp] theorem Decision.get10 (x:Decision):x.enc[10]?=some (.int x.eitem):=rfl
@[simp] theorem Decision.getE10 (x:Decision)(h:10<x.enc.length):x.enc[10]'h=.int x.eitem:=rfl
@[simp] theorem Decision.set10 (x:Decision)(v:Int):List.set x.enc 10 (.int v)=(Decision.mk x.no x.known x.kind x.target x.value x.eno x.ekind x.eround x.eentry x.ejudge v x.evalue x.eat x.eknown).enc:=rfl
@[simp] theorem Decision.get11 (x:Decision):x.enc[11]?=some (.int x.evalue):=rfl
@[simp] theorem Decision.getE11 (x:Decision)(h:11<x.enc.length):x.enc[11]'h=.int x.evalue:=rfl
@[simp] theorem Decision.set11 (x:Decision)(v:Int):List.set x.enc 11 (.int v)=(Decision.mk x.no x.known x.kind x.target x.value x.eno x.ekind x.eround x.eentry x.ejudge x.eitem v x.eat x.eknown).enc:=rfl
@[simp] theorem Decision.get12 (x:Decision):x.enc[12]?=some (.int x.eat):=rfl
@[simp] theorem Decision.getE12 (x:Decision)(h:12<x.enc.length):x.enc[12]'h=.int x.eat:=rfl
@[simp] theorem Decision.set12 (x:Decision)(v:Int):List.set x.enc 12 (.int v)=(Decision.mk x.no x.known x.kind x.target x.value x.eno x.ekind x.eround x.eentry x.ejudge x.eitem x.evalue v x.eknown).enc:=rfl
@[simp] theorem Decision.get13 (x:Decision):x.enc[13]?=some (.int x.eknown):=rfl
@[simp] theorem Decision.getE13 (x:Decision)(h:13<x.enc.length):x.enc[13]'h=.int x.eknown:=rfl
@[simp] theorem Decision.set13 (x:Decision)(v:Int):List.set x.enc 13 (.int v)=(Decision.mk x.no x.known x.kind x.target x.value x.eno x.ekind x.eround x.eentry x.ejudge x.eitem x.evalue x.eat v).enc:=rfl
@[simp] theorem Decision.fz (b:Nat)(o:PObj)(k:Nat)(x:Decision):k34 b o k x.enc=x.enc:=rfl
@[simp] theorem Decision.fill (x y:Decision):q5g x.enc 0 y.enc=y.enc:=rfl
@[simp] theorem Decision.eq (x y:Decision):q52 [.int,.int,.int,.int,.int,.int,.int,.int,.int,.int,.int,.int,.int,.int] x.enc y.enc=some (decide (x=y)):=by
 simp [Decision.enc]
 cases x; cases y; simp [Decision.mk.injEq]
@[simp] theorem Decision.key (x:Decision):PV.vals? x.enc=some [.int .i64 x.no,.int .i64 x.known,.int .i64 x.kind,.int .i64 x.target,.int .i64 x.value,.int .i64 x.eno,.int .i64 x.ekind,.int .i64 x.eround,.int .i64 x.eentry,.int .i64 x.ejudge,.int .i64 x.eitem,.int .i64 x.evalue,.int .i64 x.eat,.int .i64 x.eknown]:=rfl
def Decision.row (l:List Decision):List PV:=l.flatMap Decision.enc
abbrev Decision.lst (t:Bool)(l:List Decision):PV:=.list t (Decision.row l) l.length
@[simp] theorem Decision.row_len (l:List Decision):(Decision.row l).length=l.length*14:=q53 Decision.enc 14 Decision.len l
@[simp] theorem Decision.row_nil:Decision.row []=[]:=rfl
@[simp] theorem Decision.row_cons (x:Decision)(l:List Decision):Decision.row (x::l)=x.enc++Decision.row l:=rfl
theorem Decision.row_append (l m:List Decision):Decision.row (l++m)=Decision.row l++Decision.row m:=by simp [Decision.row]
@[simp] theorem Decision.row_sub (l:List Decision)(i:Nat)(h:i<l.length):sub (Decision.row l) (i*14) 14=some (l[i]).enc:=q7i Decision.enc 14 Decision.len l i h
theorem Decision.row_drop (l:List Decision)(i:Nat):(Decision.row l).drop (i*14)=Decision.row (l.drop i):=k09 Decision.enc 14 Decision.len l i
theorem Decision.row_take (l:List Decision)(i:Nat):(Decision.row l).take (i*14)=Decision.row (l.take i):=k5k Decision.enc 14 Decision.len l i
@[simp] theorem Decision.row_getE0 (l:List Decision)(i:Nat)(h:i*14<(Decision.row l).length):(Decision.row l)[i*14]'h=.int (l[i]'(by rw [Decision.row_len] at h; omega)).no:=by
 have hl:i<l.length:=by rw [Decision.row_len] at h; omega
 have:=k3h Decision.enc 14 Decision.len l i 0 hl (by omega)
 have h2:(Decision.row l)[i*14]?=some (.int l[i].no):=this
 rw [List.getElem?_eq_getElem h] at h2
 exact Option.some.inj h2
theorem Decision.row_fz (b:Nat)(o:PObj)(k:Nat)(l:List Decision):k34 b o k (Decision.row l)=Decision.row l:=z3k Decision.enc Decision.fz b o k l
attribute [simp] Decision.row_fz
abbrev Decision.event (d:Decision):Event:=⟨d.eno,d.ekind,d.eround,d.eentry,d.ejudge,d.eitem,d.evalue,d.eat,d.eknown⟩
@[simp] theorem Decision.subEv (d:Decision):sub d.enc 5 9=some d.event.enc:=rfl
def btw (n lo hi:Int):Bool:=decide (lo<=n) && decide (n<=hi)
theorem k0l (n lo hi:Int)(st:q5c):Rets P F.q1l [.int n,.int lo,.int hi] st (.bool (btw n lo hi)):=by
 refine H.q1l.pure q5l rfl rfl ?_
 simp -dsimp -implicitDefEqProofs
 simp [btw]; grind
def k22 (e:Event):Bool:=btw e.item 0 63 && btw e.value 0 1000
theorem k9h (e:Event)(st:q5c):Rets P F.q3v [e.pv] st (.bool (k22 e)):=by
 refine H.q3v.pure q5l rfl rfl ?_
 repeat' (first 
  | (with_reducible refine Fresh.intro fun b hb=>?_) <;> (try simp -dsimp -implicitDefEqProofs [*] at hb)
  | (with_reducible refine Rets.xcall (k0l ..) ?_)
  | (with_reducible refine And.intro (fun h=>?_) (fun h=>?_)) <;> (try (exfalso; omega))
  | (simp -dsimp -implicitDefEqProofs [*]))
 all_goals simp_all [k22]
def y0t:PV:=.func (.func F.q3v) [] []
theorem z80 (e:Event)(st:q5c):Rets P F.q3b [e.pv,.iptr [y0t] 0] st (.bool (e.judge == 0 && k22 e)):=by
 refine H.q3b.pure q5l rfl rfl ?_
 repeat' (first 
  | (with_reducible refine Fresh.intro fun b hb=>?_) <;> (try simp -dsimp -implicitDefEqProofs [*] at hb)
  | (with_reducible refine Rets.xcall (k9h e _) ?_)
  | (with_reducible refine And.intro (fun h=>?_) (fun h=>?_)) <;> (try (exfalso; omega))
  | (simp -dsimp -implicitDefEqProofs [y0t, *]))
 all_goals (try simp_all [k22])
theorem z81 (e:Event)(st:q5c):Rets P F.q3w [e.pv,.iptr [y0t] 0] st (.bool (btw e.judge 0 255 && k22 e)):=by
 refine H.q3w.pure q5l rfl rfl ?_
 repeat' (first 
  | (with_reducible refine Fresh.intro fun b hb=>?_) <;> (try simp -dsimp -implicitDefEqProofs [*] at hb)
  | (with_reducible refine Rets.xcall (k0l ..) ?_)
  | (with_reducible refine Rets.xcall (k9h e _) ?_)
  | (with_reducible refine And.intro (fun h=>?_) (fun h=>?_)) <;> (try (exfalso; omega))
  | (simp -dsimp -implicitDefEqProofs [y0t, *]))
 all_goals (try simp_all [k22])
theorem z82 (e:Event)(st:q5c):Rets P F.q3x [e.pv] st (.bool (e.judge == 0 && e.item == 0 && btw e.value 0 1)):=by
 refine H.q3x.pure q5l rfl rfl ?_
 repeat' (first 
  | (with_reducible refine Fresh.intro fun b hb=>?_) <;> (try simp -dsimp -implicitDefEqProofs [*] at hb)
  | (with_reducible refine Rets.xcall (k0l ..) ?_)
  | (with_reducible refine And.intro (fun h=>?_) (fun h=>?_)) <;> (try (exfalso; omega))
  | (simp -dsimp -implicitDefEqProofs [*]))
 all_goals (try simp_all [k22])
def kv (f:FuncId)(cap:List PV):PV:=.agg [.func (.func f) [] cap]
def k9i:PV:=.imap [.int .i64 1,.int .i64 2,.int .i64 3,.int .i64 4]
 [kv F.q3w [.iptr [y0t] 0],kv F.q3b [.iptr [y0t] 0],kv F.q3b [.iptr [y0t] 0],kv F.q3x []]
theorem j2r (st:q5c):Rets P F.q4i [] st k9i:=by
 refine H.q4i.view q5l rfl rfl ?_
 repeat' (first 
  | (with_reducible refine Fresh.intro fun b hb=>?_) <;> (try simp -dsimp -implicitDefEqProofs [*] at hb)
  | (with_reducible refine RetView.fz 1 ?_ ?_)
  | (with_reducible refine RetView.same ?_)
  | (simp -dsimp -implicitDefEqProofs [k9i,kv,y0t, *]))
def q79 (e:Event):Bool:=
 (btw e.no 0 1048576 && btw e.round 0 7 && btw e.entry 0 4095) && (btw e.at' 0 2097151 && btw e.known 0 2097151) &&
 (if e.kind=1 then btw e.judge 0 255 && k22 e else if e.kind=2\/e.kind=3 then e.judge == 0 && k22 e else if e.kind=4 then e.judge == 0 && e.item == 0 && btw e.value 0 1 else false)
theorem j2s (e:Event)(st:q5c):Rets P F.q4j [e.pv,k9i] st (.bool (q79 e)):=by
 refine H.q4j.pure q5l rfl rfl ?_
 repeat' (first 
  | (with_reducible refine Fresh.intro fun b hb=>?_) <;> (try simp -dsimp -implicitDefEqProofs [*] at hb)
  | (with_reducible refine Rets.xcall (k0l ..) ?_)
  | (with_reducible refine Rets.xcall (z80 e _) ?_)
  | (with_reducible refine Rets.xcall (z81 e _) ?_)
  | (with_reducible refine Rets.xcall (z82 e _) ?_)
  | (with_reducible refine And.intro (fun h=>?_) (fun h=>?_)) <;> (try (exfalso; omega))
  | (simp -dsimp -implicitDefEqProofs [k9i,kv, *]))
 all_goals simp_all [q79]
open Go.Pv
set_option maxRecDepth 100000
def ok (l:List Event):Prop:=(∀ e ∈ l,q79 e=true)/\l.Pairwise (fun a b=>a.no<b.no)
instance (l:List Event):Decidable (ok l):=inferInstanceAs (Decidable (_/\_))
theorem y0u:ok []:=⟨by simp,.nil⟩
theorem z3x {l:List Event}(h:ok l)(i:Nat):ok (l.take i):=⟨fun e he=>h.1 e (List.mem_of_mem_take he),h.2.sublist (List.take_sublist _ _)⟩
theorem k23 {l:List Event}{i:Nat}(hi:i<l.length)(h:ok (l.take i)):ok (l.take (i+1)) ↔ q79 l[i]=true/\(0<i->∀ h:i-1<l.length,l[i-1].no<l[i].no):=by
 have e:l.take (i+1)=l.take i++[l[i]]:=by rw [List.take_succ_eq_append_getElem hi]
 constructor
 ·rintro⟨h1,h2⟩
  refine⟨h1 _ (by rw [e]; exact List.mem_append_right _ (by simp)),fun h0 hl=>?_⟩
  rw [e,List.pairwise_append] at h2
  refine h2.2.2 _ ?_ _ (by simp)
  rw [List.mem_iff_getElem]
  exact⟨i-1,by simp; omega,by simp⟩
 ·rintro⟨h1,h2⟩
  rw [e]
  refine⟨fun x hx=>?_, ?_⟩
  ·rcases List.mem_append.1 hx with hx | hx
   ·exact h.1 x hx
   ·simp at hx; subst hx; exact h1
  ·rw [List.pairwise_append]
   refine⟨h.2,by simp,fun x hx y hy=>?_⟩
   simp at hy; subst hy
   obtain⟨j,hj,rfl⟩:=List.mem_iff_getElem.1 hx
   have hjl:j<i:=by simp at hj; omega
   have h0:=h2 (by omega) (by omega)
   simp only [List.getElem_take]
   by_cases hji:j=i-1
   ·subst hji; exact h0
   ·have:=(List.pairwise_iff_getElem.1 h.2) j (i-1) hj (by simp; omega) (by omega)
    simp only [List.getElem_take] at this
    omega
def q8q (l:List Event):Int:=if 4096<l.length then 2 else if ok l then 0 else 490
theorem z16 (t:Bool)(l:List Event)(st:q5c):Rets P F.q31 [Event.lst t l] st (.int (q8q l)):=by
 refine H.q31.pure q5l rfl rfl ?_
 repeat' (first 
  | (with_reducible refine Rets.xcall (j2r _) ?_)
  | (with_reducible refine And.intro (fun h=>?_) (fun h=>?_)) <;> (try (exfalso; omega))
  | (simp -dsimp -implicitDefEqProofs [*]))
 ·simp [q8q]; omega
 ·refine q5e (fun i=>[(0,Event.lst t l),(3,k9i),(10,Event.lst t l),(11,.int l.length),(12,.int (i:Nat))]) (fun _=>st) (fun i=>i<=l.length/\ok (l.take i)) (fun i=>l.length-i) 0 ?_ ?_ ?_ ?_
  ·exact⟨Nat.zero_le _,by simpa using y0u⟩
  ·simp
  ·exact StLe.refl _
  rintro i ⟨hi,hok⟩
  have hw:=q5f (n:=i) (by omega)
  have hw2:IntKind.i64.wrap ((i:Int)-1)=(i:Int)-1:=q5i (by omega) (by omega)
  have ht:((i:Int)-1).toNat=i-1:=by omega
  repeat' (first 
   | (with_reducible refine Fresh.intro fun b hb=>?_) <;> (try simp -dsimp -implicitDefEqProofs [*] at hb)
   | (with_reducible refine Rets.xcall (j2s _ _) ?_)
   | (with_reducible refine DrawLate.intro [] ?_)
   | (with_reducible refine And.intro (fun h=>?_) (fun h=>?_)) <;> (try (exfalso; omega))
   | ((with_reducible refine q5r ?_ fun hk=>?_); omega)
   | (simp -dsimp -implicitDefEqProofs [*]))
  ·have h2:¬ ok l:=fun hl=>by
    have:=(k23 ‹_› hok).1 (z3x hl (i+1))
    have:=this.2 ‹_› ‹_›
    omega
   simp [q8q,h2]; omega
  ·refine Next.intro (i+1) ⟨by omega,(k23 ‹_› hok).2 ⟨‹_›,fun _ _=>by omega⟩⟩ (by omega) ?_ (by simp [*])
   simp [hw]
  ·subst i
   refine Next.intro 1 ⟨by omega,(k23 ‹_› hok).2 ⟨‹_›,fun h=>by omega⟩⟩ (by omega) ?_ (by simp [*])
   simp
  ·have h2:¬ ok l:=fun hl=>by
    have:=(k23 ‹_› hok).1 (z3x hl (i+1))
    simp_all
   simp [q8q,h2]; omega
  ·rw [List.take_of_length_le ‹_›] at hok
   simp [q8q,hok]; omega
open Go.Pv
set_option maxRecDepth 100000
def j3s (a b:Int):Int:=if a<b then -1 else if b<a then 1 else 0
theorem j2t (a:Int)(st:q5c):Rets P F.q3t [.int a] st (.bool false):=by
 refine H.q3t.pure q5l rfl rfl ?_
 repeat' (simp -dsimp -implicitDefEqProofs [*])
theorem j1a (a b:Int)(st:q5c):Rets P F.q28 [.int a,.int b] st (.int (j3s a b)):=by
 refine H.q28.pure q5l rfl rfl ?_
 repeat' (first 
  | (with_reducible refine Rets.xcall (j2t ..) ?_)
  | (with_reducible refine And.intro (fun h=>?_) (fun h=>?_)) <;> (try (exfalso; omega))
  | (simp -dsimp -implicitDefEqProofs [*]))
 all_goals (unfold j3s; grind)
theorem z83 {l:List Event}:q8q l=0 ↔ l.length<=4096/\ok l:=by
 unfold q8q
 split
 ·constructor <;> intro h <;> omega
 ·split
  ·constructor
   ·intro _; exact⟨by omega,by assumption⟩
   ·intro _; rfl
  ·constructor
   ·intro h; omega
   ·intro h; exact absurd h.2 (by assumption)
theorem y7v (e:Event):ok [e] ↔ q79 e=true:=by simp [ok]
theorem k6r (e:Event):q8q [e]=0 ↔ q79 e=true:=by
 rw [z83,y7v]; simp
theorem z84 (t:Bool)(e:Event):PV.list t e.enc 1=Event.lst t [e]:=by simp [Event.lst]
theorem j2u (e:Event)(st:q5c):Rets P F.q4h [e.pv] st (.bool (q79 e)):=by
 refine H.q4h.pure q5l rfl rfl ?_
 have h:=k6r e
 have hb:decide (q8q [e]=0)=q79 e:=by rw [Bool.eq_iff_iff,decide_eq_true_eq,h]
 repeat' (first 
  | (with_reducible refine Fresh.intro fun b hb=>?_) <;> (try simp -dsimp -implicitDefEqProofs [*] at hb)
  | (with_reducible refine Rets.xcall (z16 _ [e] _) ?_)
  | (with_reducible refine Lit.imm ?_)
  | (simp -dsimp -implicitDefEqProofs [z84, *]))
theorem j2v (n lo hi:Int)(st:q5c):Rets P F.q1c [.int n,.int lo,.int hi] st (.bool (btw n lo hi)):=by
 refine H.q1c.pure q5l rfl rfl ?_
 simp -dsimp -implicitDefEqProofs
 simp [btw]; grind
theorem k5o (e:Event)(st:q5c):Rets P F.q2z [e.pv] st (.bool (q79 e)):=by
 refine H.q2z.pure q5l rfl rfl ?_
 repeat' (first 
  | (with_reducible refine Fresh.intro fun b hb=>?_) <;> (try simp -dsimp -implicitDefEqProofs [*] at hb)
  | (with_reducible refine Rets.xcall (j2v ..) ?_)
  | (with_reducible refine And.intro (fun h=>?_) (fun h=>?_)) <;> (try (exfalso; omega))
  | (simp -dsimp -implicitDefEqProofs [*]))
 all_goals (simp_all [q79,k22]; try grind)
theorem j5n {l:List Event}{i:Nat}(hok:ok (l.take i))(h:i<l.length)(hr:q79 l[i]=false)(hl:l.length<=4096):490=q8q l:=by
 have h2:¬ ok l:=fun hl=>by
  have:=(k23 h hok).1 (z3x hl (i+1))
  rw [hr] at this; exact absurd this.1 (by simp)
 simp [q8q,h2]; omega
theorem j5o {l:List Event}{i:Nat}(hok:ok (l.take i))(h:i<l.length)(h0:0<i)(h1:i-1<l.length)(hr:l[i].no<=l[i-1].no)(hl:l.length<=4096):490=q8q l:=by
 have h2:¬ ok l:=fun hl=>by
  have:=(k23 h hok).1 (z3x hl (i+1))
  have:=this.2 h0 h1
  omega
 simp [q8q,h2]; omega
theorem z3y (t:Bool)(l:List Event)(st:q5c):Rets P F.q3m [Event.lst t l] st (.int (q8q l)):=by
 refine H.q3m.pure q5l rfl rfl ?_
 repeat' (first 
  | (with_reducible refine And.intro (fun h=>?_) (fun h=>?_)) <;> (try (exfalso; omega))
  | (simp -dsimp -implicitDefEqProofs [*]))
 ·simp [q8q]; omega
 ·refine q5e (fun i=>[(0,Event.lst t l),(3,.int (i:Nat))]) (fun _=>st) (fun i=>i<=l.length/\ok (l.take i)) (fun i=>l.length-i) 0 ?_ ?_ ?_ ?_
  ·exact⟨Nat.zero_le _,by simpa using y0u⟩
  ·simp
  ·exact StLe.refl _
  rintro i ⟨hi,hok⟩
  have hw:=q5f (n:=i) (by omega)
  have hw2:IntKind.i64.wrap ((i:Int)-1)=(i:Int)-1:=q5i (by omega) (by omega)
  have ht:((i:Int)-1).toNat=i-1:=by omega
  repeat' (first 
   | (with_reducible refine Rets.xcall (k5o _ _) ?_)
   | (with_reducible refine DrawLate.intro [] ?_)
   | (with_reducible refine And.intro (fun h=>?_) (fun h=>?_)) <;> (try (exfalso; omega))
   | ((with_reducible refine q5r ?_ fun hk=>?_); omega)
   | (simp -dsimp -implicitDefEqProofs [*]))
  ·exact j5o hok ‹_› ‹_› ‹_› ‹_› (by omega)
  ·refine Next.intro (i+1) ⟨by omega,(k23 ‹_› hok).2 ⟨‹_›,fun _ _=>by omega⟩⟩ (by omega) ?_ (by simp)
   simp
  ·subst i
   refine Next.intro 1 ⟨by omega,(k23 ‹_› hok).2 ⟨‹_›,fun h=>by omega⟩⟩ (by omega) ?_ (by simp)
   simp
  ·exact j5n hok ‹_› ‹_› (by omega)
  ·rw [List.take_of_length_le ‹_›] at hok
   simp [q8q,hok]; omega
theorem j2w (e:Event)(st:q5c):Rets P F.q3l [e.pv] st (.bool (q79 e)):=by
 refine H.q3l.pure q5l rfl rfl ?_
 have h:=k6r e
 have hb:decide (q8q [e]=0)=q79 e:=by rw [Bool.eq_iff_iff,decide_eq_true_eq,h]
 repeat' (first 
  | (with_reducible refine Fresh.intro fun b hb=>?_) <;> (try simp -dsimp -implicitDefEqProofs [*] at hb)
  | (with_reducible refine Rets.xcall (z3y _ [e] _) ?_)
  | (with_reducible refine Lit.imm ?_)
  | (simp -dsimp -implicitDefEqProofs [z84, *]))
abbrev zeroE:Event:=⟨0,0,0,0,0,0,0,0,0⟩
theorem q71:[PV.int 0,.int 0,.int 0,.int 0,.int 0,.int 0,.int 0,.int 0,.int 0]=zeroE.enc:=rfl
def k24 (d:Decision):Bool:=decide (0<=d.target) && decide (d.target<=1048576) && decide (d.event=zeroE)
theorem k9j (d:Decision)(st:q5c):Rets P F.q3z [d.pv] st (.bool (k24 d)):=by
 refine H.q3z.pure q5l rfl rfl ?_
 repeat' (first 
  | (with_reducible refine Fresh.intro fun b hb=>?_) <;> (try simp -dsimp -implicitDefEqProofs [*] at hb)
  | (with_reducible refine And.intro (fun h=>?_) (fun h=>?_)) <;> (try (exfalso; omega))
  | (simp -dsimp -implicitDefEqProofs [q71, *]))
 all_goals (try simp_all [k24])
 all_goals (intros; omega)
def k4n (d:Decision):Bool:=k24 d && decide (d.value=0)
def k9k (d:Decision):Bool:=k24 d && decide (0<=d.value) && decide (d.value<=1000)
def addD (d:Decision):Bool:=decide (d.target=0) && decide (d.value=0) && q79 d.event
theorem z6e (d:Decision)(st:q5c):Rets P F.q3f [d.pv] st (.bool (k4n d)):=by
 refine H.q3f.pure q5l rfl rfl ?_
 repeat' (first 
  | (with_reducible refine Fresh.intro fun b hb=>?_) <;> (try simp -dsimp -implicitDefEqProofs [*] at hb)
  | (with_reducible refine Rets.xcall (k9j _ _) ?_)
  | (with_reducible refine And.intro (fun h=>?_) (fun h=>?_)) <;> (try (exfalso; omega))
  | (simp -dsimp -implicitDefEqProofs [*]))
 all_goals (simp_all [k4n])
theorem z6f (d:Decision)(st:q5c):Rets P F.q3g [d.pv] st (.bool (k9k d)):=by
 refine H.q3g.pure q5l rfl rfl ?_
 repeat' (first 
  | (with_reducible refine Fresh.intro fun b hb=>?_) <;> (try simp -dsimp -implicitDefEqProofs [*] at hb)
  | (with_reducible refine Rets.xcall (k9j _ _) ?_)
  | (with_reducible refine And.intro (fun h=>?_) (fun h=>?_)) <;> (try (exfalso; omega))
  | (simp -dsimp -implicitDefEqProofs [*]))
 all_goals (try simp_all [k9k])
 all_goals (intros; omega)
theorem z6g (d:Decision)(st:q5c):Rets P F.q3h [d.pv] st (.bool (addD d)):=by
 refine H.q3h.pure q5l rfl rfl ?_
 repeat' (first 
  | (with_reducible refine Fresh.intro fun b hb=>?_) <;> (try simp -dsimp -implicitDefEqProofs [*] at hb)
  | (with_reducible refine Rets.xcall (j2u _ _) ?_)
  | (with_reducible refine And.intro (fun h=>?_) (fun h=>?_)) <;> (try (exfalso; omega))
  | (simp -dsimp -implicitDefEqProofs [*]))
 all_goals (simp_all [addD])
abbrev fnv (f:FuncId):PV:=.func (.func f) [] []
def allKinds:List PV:=[.val .nilFunc,.val .nilFunc,fnv F.q3f,fnv F.q4y,fnv F.q3g,fnv F.q4z,fnv F.q3h,fnv F.q40]
theorem z85 (st:q5c):Rets P F.q4f [] st (.agg allKinds):=by
 refine H.q4f.view q5l rfl rfl ?_
 repeat' (first 
  | (with_reducible refine Fresh.intro fun b hb=>?_) <;> (try simp -dsimp -implicitDefEqProofs [*] at hb)
  | (with_reducible refine RetView.fz 1 ?_ ?_)
  | (with_reducible refine RetView.same ?_)
  | (simp -dsimp -implicitDefEqProofs [allKinds, *]))
open Go.Pv
set_option maxRecDepth 100000
open Go.Pv
set_option maxRecDepth 100000
def q8a (d:Decision):Bool:=if d.kind=1 then k4n d else if d.kind=2 then k9k d else if d.kind=3 then addD d else false
def q7l (d:Decision):Bool:=btw d.no 0 1048576 && btw d.known 0 2097151 && q8a d
def okD (l:List Decision):Prop:=(∀ e ∈ l,q7l e=true)/\l.Pairwise (fun a b=>a.no<b.no)
instance (l:List Decision):Decidable (okD l):=inferInstanceAs (Decidable (_/\_))
def k5p (l:List Decision):Int:=match l.getLast? with | some e=>e.no | none=>-1
@[simp] theorem j5p:k5p []=-1:=rfl
@[simp] theorem k3n (l:List Decision)(x:Decision):k5p (l++[x])=x.no:=by simp [k5p]
theorem k5q {e:Decision}(h:q7l e=true):0<=e.no/\e.no<=1048576:=by
 unfold q7l btw at h
 simp at h
 omega
theorem z86:okD []:=⟨by simp,.nil⟩
theorem j8o {l:List Decision}(h:okD l):∀ z ∈ l,z.no<=k5p l:=by
 intro z hz
 rcases List.eq_nil_or_concat l with rfl |⟨L,x,rfl⟩
 ·simp at hz
 ·rw [List.concat_eq_append] at *
  rw [k3n]
  rcases List.mem_append.1 hz with hz | hz
  ·have:=(List.pairwise_append.1 h.2).2.2 z hz x (by simp)
   omega
  ·simp at hz; subst hz; omega
theorem j1b {l:List Decision}{x:Decision}(h:okD l):okD (l++[x]) ↔ q7l x=true/\k5p l<x.no:=by
 constructor
 ·rintro⟨h1,h2⟩
  refine⟨h1 x (by simp), ?_⟩
  rcases List.eq_nil_or_concat l with rfl |⟨L,y,rfl⟩
  ·have:=k5q (h1 x (by simp)); simp; omega
  ·rw [List.concat_eq_append] at *
   rw [k3n]
   exact (List.pairwise_append.1 h2).2.2 y (by simp) x (by simp)
 ·rintro⟨h1,h2⟩
  refine⟨fun z hz=>?_,List.pairwise_append.2 ⟨h.2,by simp,fun z hz y hy=>?_⟩⟩
  ·rcases List.mem_append.1 hz with hz | hz
   ·exact h.1 z hz
   ·simp at hz; subst hz; exact h1
  ·simp at hy; subst hy
   have:=j8o h z hz
   omega
theorem j8p {l:List Decision}(h:okD l)(i:Nat):okD (l.take i):=⟨fun e he=>h.1 e (List.mem_of_mem_take he),h.2.sublist (List.take_sublist _ _)⟩
theorem z3z {l:List Decision}{i:Nat}(hi:i<l.length)(h:okD (l.take i)):okD (l.take (i+1)) ↔ q7l l[i]=true/\k5p (l.take i)<l[i].no:=by
 rw [List.take_succ_eq_append_getElem hi]
 exact j1b h
def q8y (l:List Decision):Int:=if 4096<l.length then 2 else if okD l then 0 else 510
theorem k4o {l:List Decision}:q8y l=0 ↔ l.length<=4096/\okD l:=by
 unfold q8y
 split
 ·constructor <;> intro h <;> omega
 ·split
  ·constructor
   ·intro _; exact⟨by omega,by assumption⟩
   ·intro _; rfl
  ·constructor
   ·intro h; omega
   ·intro h; exact absurd h.2 (by assumption)
theorem z6h {l:List Decision}{i:Nat}(hi:i<l.length)(h:okD (l.take i))(hl:l.length<=4096)(hn:q7l l[i]=false\/l[i].no<=k5p (l.take i)):q8y l=510:=by
 have h2:¬ okD l:=fun hk=>by
  have:=(z3z hi h).1 (j8p hk (i+1))
  rcases hn with hn | hn
  ·rw [hn] at this; exact absurd this.1 (by simp)
  ·omega
 rw [q8y,if_neg (by omega),if_neg h2]
theorem z17 {l:List Decision}{i:Nat}(hi:i<l.length):k5p (l.take (i+1))=l[i].no:=by
 rw [List.take_succ_eq_append_getElem hi,k3n]
theorem z87 {l:List Decision}(h:okD l):-1<=k5p l:=by
 rcases List.eq_nil_or_concat l with rfl |⟨L,y,rfl⟩
 ·simp
 ·rw [List.concat_eq_append] at *
  rw [k3n]
  have:=k5q (h.1 y (by simp))
  omega
theorem k3o {d:Decision}(h:d.kind<1\/3<d.kind\/1048576<d.no\/d.known<0\/2097152<=d.known):q7l d=false:=by
 unfold q7l btw q8a
 rcases h with h | h | h | h | h
 ·have:¬ d.kind=1/\¬ d.kind=2/\¬ d.kind=3:=by omega
  simp [this]
 ·have:¬ d.kind=1/\¬ d.kind=2/\¬ d.kind=3:=by omega
  simp [this]
 all_goals simp
 all_goals (intros; omega)
theorem k9l {d:Decision}{last:Int}(h0:-1<=last)(h1:last<d.no)(h2:d.no<=1048576)(h3:0<=d.known)(h4:d.known<2097152):q7l d=q8a d:=by
 unfold q7l btw
 have:0<=d.no/\d.known<=2097151:=by omega
 simp [*]
@[simp] theorem y0v:allKinds.length=8:=rfl
theorem z88 (t:Bool)(l:List Decision)(st:q5c):Rets P F.q4a [Decision.lst t l] st (.int (q8y l)):=by
 refine H.q4a.pure q5l rfl rfl ?_
 repeat' (first 
  | (with_reducible refine Fresh.intro fun b hb=>?_) <;> (try simp -dsimp -implicitDefEqProofs [*] at hb)
  | (with_reducible refine Rets.xcall (z85 _) ?_)
  | (with_reducible refine And.intro (fun h=>?_) (fun h=>?_)) <;> (try (exfalso; omega))
  | (simp -dsimp -implicitDefEqProofs [*]))
 ·simp [q8y]; omega
 ·refine q5e (fun i=>[(0,Decision.lst t l),(3,.ptr b 0),(4,.int (k5p (l.take i))),(11,Decision.lst t l),(12,.int l.length),(13,.int (i:Nat))]) (fun _=>(b,.arr T.q45 allKinds)::st) (fun i=>i<=l.length/\okD (l.take i)) (fun i=>l.length-i) 0 ?_ ?_ ?_ ?_
  ·exact⟨Nat.zero_le _,by simpa using z86⟩
  ·simp
  ·exact StLe.refl _
  rintro i ⟨hi,hok⟩
  have hw:=q5f (n:=i) (by omega)
  have hlr:=z87 hok
  have hno:=fun (hil:i<l.length) hn=>(z6h hil hok (by omega) hn)
  have hst:=fun (hil:i<l.length)=>(z3z hil hok)
  have hls:=fun (hil:i<l.length)=>(z17 hil)
  have hfin:l.length<=i->q8y l=0:=fun h=>by rw [List.take_of_length_le h] at hok; exact (k4o.2 ⟨by omega,hok⟩)
  clear hok
  generalize hlast:k5p (l.take i)=last at *
  by_cases hil:i<l.length
  ·replace hno:=hno hil
   replace hst:=hst hil
   replace hls:=hls hil
   clear hfin
   generalize hd:l[i]=d at *
   have hk4:d.kind=1\/d.kind=2\/d.kind=3\/d.kind<1\/3<d.kind:=by omega
   have fin:last<d.no->d.no<=1048576->0<=d.known->d.known<2097152->q8a d=true->okD (l.take (i+1)):=fun h1 h2 h3 h4 h5=>hst.2 ⟨by rw [k9l hlr h1 h2 h3 h4]; exact h5,h1⟩
   have bad:last<d.no->d.no<=1048576->0<=d.known->d.known<2097152->q8a d=false->q8y l=510:=fun h1 h2 h3 h4 h5=>hno (.inl (by rw [k9l hlr h1 h2 h3 h4]; exact h5))
   have out:d.kind<1\/3<d.kind\/1048576<d.no\/d.known<0\/2097152<=d.known->q8y l=510:=fun h=>hno (.inl (k3o h))
   have low:d.no<=last->q8y l=510:=fun h=>hno (.inr h)
   clear hst hno
   rcases hk4 with hk1 | hk1 | hk1 | hk1 | hk1
   ·have hr:q8a d=k4n d:=by simp [q8a,hk1]
    rw [hr] at fin bad
    repeat' (first 
     | (with_reducible refine Fresh.intro fun b hb=>?_) <;> (try simp -dsimp -implicitDefEqProofs [*] at hb)
     | (with_reducible refine Rets.xcall (z6e _ _) ?_)
     | (with_reducible refine DrawLate.intro [] ?_)
     | (with_reducible refine And.intro (fun h=>?_) (fun h=>?_)) <;> (try (exfalso; omega))
     | (simp -dsimp -implicitDefEqProofs [allKinds, *]))
    refine Next.intro (i+1) ⟨by omega,fin ‹_› ‹_› ‹_› ‹_› ‹_›⟩ (by omega) (by simp [*]) ?_
    exact StLe.fresh (by simp [*])
   ·have hr:q8a d=k9k d:=by simp [q8a,hk1]
    rw [hr] at fin bad
    repeat' (first 
     | (with_reducible refine Fresh.intro fun b hb=>?_) <;> (try simp -dsimp -implicitDefEqProofs [*] at hb)
     | (with_reducible refine Rets.xcall (z6f _ _) ?_)
     | (with_reducible refine DrawLate.intro [] ?_)
     | (with_reducible refine And.intro (fun h=>?_) (fun h=>?_)) <;> (try (exfalso; omega))
     | (simp -dsimp -implicitDefEqProofs [allKinds, *]))
    refine Next.intro (i+1) ⟨by omega,fin ‹_› ‹_› ‹_› ‹_› ‹_›⟩ (by omega) (by simp [*]) ?_
    exact StLe.fresh (by simp [*])
   ·have hr:q8a d=addD d:=by simp [q8a,hk1]
    rw [hr] at fin bad
    repeat' (first 
     | (with_reducible refine Fresh.intro fun b hb=>?_) <;> (try simp -dsimp -implicitDefEqProofs [*] at hb)
     | (with_reducible refine Rets.xcall (z6g _ _) ?_)
     | (with_reducible refine DrawLate.intro [] ?_)
     | (with_reducible refine And.intro (fun h=>?_) (fun h=>?_)) <;> (try (exfalso; omega))
     | (simp -dsimp -implicitDefEqProofs [allKinds, *]))
    refine Next.intro (i+1) ⟨by omega,fin ‹_› ‹_› ‹_› ‹_› ‹_›⟩ (by omega) (by simp [*]) ?_
    exact StLe.fresh (by simp [*])
   ·repeat' (first 
     | (with_reducible refine Fresh.intro fun b hb=>?_) <;> (try simp -dsimp -implicitDefEqProofs [*] at hb)
     | (with_reducible refine DrawLate.intro [] ?_)
     | (simp -dsimp -implicitDefEqProofs [*]))
    all_goals done
   ·repeat' (first 
     | (with_reducible refine Fresh.intro fun b hb=>?_) <;> (try simp -dsimp -implicitDefEqProofs [*] at hb)
     | (with_reducible refine DrawLate.intro [] ?_)
     | (simp -dsimp -implicitDefEqProofs [*]))
    all_goals done
  ·repeat' (simp -dsimp -implicitDefEqProofs [*])
   exact (hfin (by omega)).symm
end Go.Proofs.YtmlmoaimjifpgaaGreat
