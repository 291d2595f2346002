/- Cards, shares, what was shown, sessions, as they stand in the cells. -/
import Derived.Test.YtnooplpbpfiapaaGreatDoorS36X
import Derived.Test.YtnooplpbpfiapaaGreatDoorLLo
namespace Go.Proofs.YtnooplpbpfiapaaGreatDoor
open Go.Pv
set_option maxRecDepth 100000
theorem k7w (b : Nat) (o : PObj) (k : Nat) (l : List Int) : k2g b o k (q6j l) = q6j l := k6v b o k fun p hp => by
 unfold q6j at hp
 obtain ⟨x, -, rfl⟩ := List.mem_map.1 hp
 rfl
theorem k6e (b : Nat) (o : PObj) (k : Nat) (l : List (BitVec 8)) : k2g b o k (q5e l) = q5e l := k6v b o k fun p hp => by
 unfold q5e at hp
 obtain ⟨x, -, rfl⟩ := List.mem_map.1 hp
 rfl
abbrev Dig := {l : List (BitVec 8) // l.length = 32}
structure Card where
 r : Int
 e : Int
 j : Int
 c : List Int
 d : Dig
 deriving DecidableEq
instance : Inhabited Card := ⟨⟨0, 0, 0, [], ⟨List.replicate 32 0#8, by simp⟩⟩⟩
def Card.enc (x : Card) : List PV := .int x.r :: .int x.e :: .int x.j :: q5k false x.c :: q5e x.d.1
abbrev Card.pv (x : Card) : PV := .agg x.enc
section
variable (x : Card) (b k : Nat) (o : PObj)
@[simp] theorem Card.len : x.enc.length = 36 := by simp [Card.enc, x.d.2]
@[simp] theorem Card.sub_all : sub x.enc 0 36 = some x.enc := Go.Pv.sub_all x.len
@[simp] theorem Card.get0 : x.enc[0]? = some (.int x.r) := rfl
@[simp] theorem Card.get1 : x.enc[1]? = some (.int x.e) := rfl
@[simp] theorem Card.get2 : x.enc[2]? = some (.int x.j) := rfl
@[simp] theorem Card.get3 : x.enc[3]? = some (q5k false x.c) := rfl
@[simp] theorem Card.getE0 (h : 0 < x.enc.length) : x.enc[0]'h = .int x.r := rfl
@[simp] theorem Card.getE1 (h : 1 < x.enc.length) : x.enc[1]'h = .int x.e := rfl
@[simp] theorem Card.getE2 (h : 2 < x.enc.length) : x.enc[2]'h = .int x.j := rfl
@[simp] theorem Card.getE3 (h : 3 < x.enc.length) : x.enc[3]'h = q5k false x.c := rfl
@[simp] theorem Card.sub_d : sub x.enc 4 32 = some (q5e x.d.1) := by
 have h : (q5e x.d.1).length = 32 := by simp [x.d.2]
 show sub ([PV.int x.r, .int x.e, .int x.j, q5k false x.c] ++ q5e x.d.1) 4 32 = _
 unfold sub
 rw [if_pos (by simp [h])]
 congr 1
 rw [List.drop_left' (by rfl), List.take_of_length_le (by omega)]
@[simp] theorem Card.fz : k2g b o k x.enc = x.enc := by simp [Card.enc, k7w, k6e]
end
def Card.row (l : List Card) : List PV := l.flatMap Card.enc
abbrev Card.lst (t : Bool) (l : List Card) : PV := .list t (Card.row l) l.length
@[simp] theorem Card.row_len (l : List Card) : (Card.row l).length = l.length * 36 := q6h Card.enc 36 Card.len l
@[simp] theorem Card.row_nil : Card.row [] = [] := rfl
@[simp] theorem Card.row_cons (x : Card) (l : List Card) : Card.row (x :: l) = x.enc ++ Card.row l := rfl
@[simp] theorem Card.row_eq_nil (l : List Card) : Card.row l = [] ↔ l = [] := by
 constructor
 ·intro h
  have := congrArg List.length h
  rw [Card.row_len] at this
  cases l with
  | nil => rfl
  | cons => simp at this
 ·rintro rfl; rfl
theorem Card.row_append (l m : List Card) : Card.row (l ++ m) = Card.row l ++ Card.row m := by simp [Card.row]
@[simp] theorem Card.row_sub (l : List Card) (i : Nat) (h : i < l.length) : sub (Card.row l) (i * 36) 36 = some (l[i]).enc := k0i Card.enc 36 Card.len l i h
@[simp] theorem Card.row_get2 (l : List Card) (i : Nat) (h : i < l.length) : (Card.row l)[i * 36 + 2]? = some (.int l[i].j) := q7n Card.enc 36 Card.len l i 2 h (by omega)
@[simp] theorem Card.row_fz (b : Nat) (o : PObj) (k : Nat) (l : List Card) : k2g b o k (Card.row l) = Card.row l := k6w Card.enc (fun b o k x => Card.fz x b k o) b o k l
structure Sh where
 o : Int
 c : Int
 h : Int
 v : Int
 deriving DecidableEq, Inhabited
def Sh.enc (x : Sh) : List PV := [.int x.o, .int x.c, .int x.h, .int x.v]
abbrev Sh.pv (x : Sh) : PV := .agg x.enc
@[simp] theorem Sh.len (x : Sh) : x.enc.length = 4 := rfl
@[simp] theorem Sh.subAll (x : Sh) : sub x.enc 0 4 = some x.enc := rfl
@[simp] theorem Sh.get0 (x : Sh) : x.enc[0]? = some (.int x.o) := rfl
@[simp] theorem Sh.getE0 (x : Sh) (h : 0 < x.enc.length) : x.enc[0]'h = .int x.o := rfl
@[simp] theorem Sh.set0 (x : Sh) (v : Int) : List.set x.enc 0 (.int v) = (Sh.mk v x.c x.h x.v).enc := rfl
@[simp] theorem Sh.get1 (x : Sh) : x.enc[1]? = some (.int x.c) := rfl
@[simp] theorem Sh.getE1 (x : Sh) (h : 1 < x.enc.length) : x.enc[1]'h = .int x.c := rfl
@[simp] theorem Sh.set1 (x : Sh) (v : Int) : List.set x.enc 1 (.int v) = (Sh.mk x.o v x.h x.v).enc := rfl
@[simp] theorem Sh.get2 (x : Sh) : x.enc[2]? = some (.int x.h) := rfl
@[simp] theorem Sh.getE2 (x : Sh) (h : 2 < x.enc.length) : x.enc[2]'h = .int x.h := rfl
@[simp] theorem Sh.set2 (x : Sh) (v : Int) : List.set x.enc 2 (.int v) = (Sh.mk x.o x.c v x.v).enc := rfl
@[simp] theorem Sh.get3 (x : Sh) : x.enc[3]? = some (.int x.v) := rfl
@[simp] theorem Sh.getE3 (x : Sh) (h : 3 < x.enc.length) : x.enc[3]'h = .int x.v := rfl
@[simp] theorem Sh.set3 (x : Sh) (v : Int) : List.set x.enc 3 (.int v) = (Sh.mk x.o x.c x.h v).enc := rfl
@[simp] theorem Sh.fz (b : Nat) (o : PObj) (k : Nat) (x : Sh) : k2g b o k x.enc = x.enc := rfl
@[simp] theorem Sh.fill (x y : Sh) : q5i x.enc 0 y.enc = y.enc := rfl
@[simp] theorem Sh.eq (x y : Sh) : q6c [.int, .int, .int, .int] x.enc y.enc = some (decide (x = y)) := by
 simp [Sh.enc]
 cases x; cases y; simp [Sh.mk.injEq]
@[simp] theorem Sh.key (x : Sh) : PV.vals? x.enc = some [.int .i64 x.o, .int .i64 x.c, .int .i64 x.h, .int .i64 x.v] := rfl
def Sh.row (l : List Sh) : List PV := l.flatMap Sh.enc
abbrev Sh.lst (t : Bool) (l : List Sh) : PV := .list t (Sh.row l) l.length
@[simp] theorem Sh.row_len (l : List Sh) : (Sh.row l).length = l.length * 4 := q6h Sh.enc 4 Sh.len l
@[simp] theorem Sh.row_nil : Sh.row [] = [] := rfl
@[simp] theorem Sh.row_cons (x : Sh) (l : List Sh) : Sh.row (x :: l) = x.enc ++ Sh.row l := rfl
theorem Sh.row_append (l m : List Sh) : Sh.row (l ++ m) = Sh.row l ++ Sh.row m := by simp [Sh.row]
@[simp] theorem Sh.row_eq_nil (l : List Sh) : Sh.row l = [] ↔ l = [] := by
 constructor
 ·intro h
  have := congrArg List.length h
  rw [Sh.row_len] at this
  cases l with
  | nil => rfl
  | cons => simp at this
 ·rintro rfl; rfl
@[simp] theorem Sh.row_sub (l : List Sh) (i : Nat) (h : i < l.length) : sub (Sh.row l) (i * 4) 4 = some (l[i]).enc := k0i Sh.enc 4 Sh.len l i h
@[simp] theorem Sh.row_getE0 (l : List Sh) (i : Nat) (h : i * 4 < (Sh.row l).length) : (Sh.row l)[i * 4]'h = .int (l[i]'(by rw [Sh.row_len] at h; omega)).o := by
 have hl : i < l.length := by rw [Sh.row_len] at h; omega
 have := q7n Sh.enc 4 Sh.len l i 0 hl (by omega)
 have h2 : (Sh.row l)[i * 4]? = some (.int l[i].o) := this
 rw [List.getElem?_eq_getElem h] at h2
 exact Option.some.inj h2
@[simp] theorem Sh.row_getE1 (l : List Sh) (i : Nat) (h : i * 4 + 1 < (Sh.row l).length) : (Sh.row l)[i * 4 + 1]'h = .int (l[i]'(by rw [Sh.row_len] at h; omega)).c := by
 have hl : i < l.length := by rw [Sh.row_len] at h; omega
 have := q7n Sh.enc 4 Sh.len l i 1 hl (by omega)
 have h2 : (Sh.row l)[i * 4 + 1]? = some (.int l[i].c) := this
 rw [List.getElem?_eq_getElem h] at h2
 exact Option.some.inj h2
theorem Sh.row_fz (b : Nat) (o : PObj) (k : Nat) (l : List Sh) : k2g b o k (Sh.row l) = Sh.row l := k6w Sh.enc Sh.fz b o k l
attribute [simp] Sh.row_fz
structure Shn where
 j : Int
 k : List Int
 s : Dig
 deriving DecidableEq
instance : Inhabited Shn := ⟨⟨0, [], ⟨List.replicate 32 0#8, by simp⟩⟩⟩
def Shn.enc (x : Shn) : List PV := .int x.j :: q5k false x.k :: q5e x.s.1
abbrev Shn.pv (x : Shn) : PV := .agg x.enc
section
variable (x : Shn) (b k : Nat) (o : PObj)
@[simp] theorem Shn.len : x.enc.length = 34 := by simp [Shn.enc, x.s.2]
@[simp] theorem Shn.sub_all : sub x.enc 0 34 = some x.enc := Go.Pv.sub_all x.len
@[simp] theorem Shn.get0 : x.enc[0]? = some (.int x.j) := rfl
@[simp] theorem Shn.get1 : x.enc[1]? = some (q5k false x.k) := rfl
@[simp] theorem Shn.getE0 (h : 0 < x.enc.length) : x.enc[0]'h = .int x.j := rfl
@[simp] theorem Shn.getE1 (h : 1 < x.enc.length) : x.enc[1]'h = q5k false x.k := rfl
@[simp] theorem Shn.sub_s : sub x.enc 2 32 = some (q5e x.s.1) := by
 have h : (q5e x.s.1).length = 32 := by simp [x.s.2]
 show sub ([PV.int x.j, q5k false x.k] ++ q5e x.s.1) 2 32 = _
 unfold sub
 rw [if_pos (by simp [h])]
 congr 1
 rw [List.drop_left' (by rfl), List.take_of_length_le (by omega)]
@[simp] theorem Shn.fz : k2g b o k x.enc = x.enc := by simp [Shn.enc, k7w, k6e]
end
def Shn.row (l : List Shn) : List PV := l.flatMap Shn.enc
abbrev Shn.lst (t : Bool) (l : List Shn) : PV := .list t (Shn.row l) l.length
@[simp] theorem Shn.row_len (l : List Shn) : (Shn.row l).length = l.length * 34 := q6h Shn.enc 34 Shn.len l
@[simp] theorem Shn.row_nil : Shn.row [] = [] := rfl
@[simp] theorem Shn.row_cons (x : Shn) (l : List Shn) : Shn.row (x :: l) = x.enc ++ Shn.row l := rfl
@[simp] theorem Shn.row_eq_nil (l : List Shn) : Shn.row l = [] ↔ l = [] := by
 constructor
 ·intro h
  have := congrArg List.length h
  rw [Shn.row_len] at this
  cases l with
  | nil => rfl
  | cons => simp at this
 ·rintro rfl; rfl
theorem Shn.row_append (l m : List Shn) : Shn.row (l ++ m) = Shn.row l ++ Shn.row m := by simp [Shn.row]
@[simp] theorem Shn.row_sub (l : List Shn) (i : Nat) (h : i < l.length) : sub (Shn.row l) (i * 34) 34 = some (l[i]).enc := k0i Shn.enc 34 Shn.len l i h
@[simp] theorem Shn.row_get0 (l : List Shn) (i : Nat) (h : i < l.length) : (Shn.row l)[i * 34]? = some (.int l[i].j) := q7n Shn.enc 34 Shn.len l i 0 h (by omega)
@[simp] theorem Shn.row_fz (b : Nat) (o : PObj) (k : Nat) (l : List Shn) : k2g b o k (Shn.row l) = Shn.row l := k6w Shn.enc (fun b o k x => Shn.fz x b k o) b o k l
structure Ses where
 round : Int
 entry : Int
 crits : Int
 judges : List Int
 need : Int
 deadline : Int
 time : Int
 sealed : List Card
 keys : List Sh
 shown : List Shn
 deriving DecidableEq
instance : Inhabited Ses := ⟨⟨0, 0, 0, [], 0, 0, 0, [], [], []⟩⟩
def Ses.enc (x : Ses) : List PV := [.int x.round, .int x.entry, .int x.crits, q5k false x.judges, .int x.need, .int x.deadline, .int x.time, Card.lst false x.sealed, Sh.lst false x.keys, Shn.lst false x.shown]
abbrev Ses.pv (x : Ses) : PV := .agg x.enc
section
variable (x : Ses) (b k : Nat) (o : PObj)
@[simp] theorem Ses.len : x.enc.length = 10 := rfl
@[simp] theorem Ses.sub_all : sub x.enc 0 10 = some x.enc := rfl
@[simp] theorem Ses.get0 : x.enc[0]? = some (.int x.round) := rfl
@[simp] theorem Ses.get1 : x.enc[1]? = some (.int x.entry) := rfl
@[simp] theorem Ses.get2 : x.enc[2]? = some (.int x.crits) := rfl
@[simp] theorem Ses.get3 : x.enc[3]? = some (q5k false x.judges) := rfl
@[simp] theorem Ses.get4 : x.enc[4]? = some (.int x.need) := rfl
@[simp] theorem Ses.get5 : x.enc[5]? = some (.int x.deadline) := rfl
@[simp] theorem Ses.get6 : x.enc[6]? = some (.int x.time) := rfl
@[simp] theorem Ses.get7 : x.enc[7]? = some (Card.lst false x.sealed) := rfl
@[simp] theorem Ses.get8 : x.enc[8]? = some (Sh.lst false x.keys) := rfl
@[simp] theorem Ses.get9 : x.enc[9]? = some (Shn.lst false x.shown) := rfl
@[simp] theorem Ses.getE0 (h : 0 < x.enc.length) : x.enc[0]'h = .int x.round := rfl
@[simp] theorem Ses.getE1 (h : 1 < x.enc.length) : x.enc[1]'h = .int x.entry := rfl
@[simp] theorem Ses.getE2 (h : 2 < x.enc.length) : x.enc[2]'h = .int x.crits := rfl
@[simp] theorem Ses.getE3 (h : 3 < x.enc.length) : x.enc[3]'h = q5k false x.judges := rfl
@[simp] theorem Ses.getE4 (h : 4 < x.enc.length) : x.enc[4]'h = .int x.need := rfl
@[simp] theorem Ses.getE5 (h : 5 < x.enc.length) : x.enc[5]'h = .int x.deadline := rfl
@[simp] theorem Ses.getE6 (h : 6 < x.enc.length) : x.enc[6]'h = .int x.time := rfl
@[simp] theorem Ses.getE7 (h : 7 < x.enc.length) : x.enc[7]'h = Card.lst false x.sealed := rfl
@[simp] theorem Ses.getE8 (h : 8 < x.enc.length) : x.enc[8]'h = Sh.lst false x.keys := rfl
@[simp] theorem Ses.getE9 (h : 9 < x.enc.length) : x.enc[9]'h = Shn.lst false x.shown := rfl
@[simp] theorem Ses.set6 (n : Int) : List.set x.enc 6 (.int n) = ({ x with time := n } : Ses).enc := rfl
@[simp] theorem Ses.set7 (l : List Card) : List.set x.enc 7 (Card.lst false l) = ({ x with sealed := l } : Ses).enc := rfl
@[simp] theorem Ses.set8 (l : List Sh) : List.set x.enc 8 (Sh.lst false l) = ({ x with keys := l } : Ses).enc := rfl
@[simp] theorem Ses.set9 (l : List Shn) : List.set x.enc 9 (Shn.lst false l) = ({ x with shown := l } : Ses).enc := rfl
end
structure Opd where
 how : Int
 marks : List Int
 deriving DecidableEq
instance : Inhabited Opd := ⟨⟨0, []⟩⟩
def Opd.enc (x : Opd) : List PV := [.int x.how, q5k false x.marks]
abbrev Opd.pv (x : Opd) : PV := .agg x.enc
section
variable (x : Opd) (b k : Nat) (o : PObj)
@[simp] theorem Opd.len : x.enc.length = 2 := rfl
@[simp] theorem Opd.sub_all : sub x.enc 0 2 = some x.enc := rfl
@[simp] theorem Opd.get0 : x.enc[0]? = some (.int x.how) := rfl
@[simp] theorem Opd.get1 : x.enc[1]? = some (q5k false x.marks) := rfl
@[simp] theorem Opd.getE0 (h : 0 < x.enc.length) : x.enc[0]'h = .int x.how := rfl
@[simp] theorem Opd.getE1 (h : 1 < x.enc.length) : x.enc[1]'h = q5k false x.marks := rfl
end
def Opd.row (l : List Opd) : List PV := l.flatMap Opd.enc
abbrev Opd.lst (t : Bool) (l : List Opd) : PV := .list t (Opd.row l) l.length
@[simp] theorem Opd.row_len (l : List Opd) : (Opd.row l).length = l.length * 2 := q6h Opd.enc 2 Opd.len l
@[simp] theorem Opd.row_nil : Opd.row [] = [] := rfl
@[simp] theorem Opd.row_cons (x : Opd) (l : List Opd) : Opd.row (x :: l) = x.enc ++ Opd.row l := rfl
theorem Opd.row_append (l m : List Opd) : Opd.row (l ++ m) = Opd.row l ++ Opd.row m := by simp [Opd.row]
@[simp] theorem Opd.row_get0 (l : List Opd) (i : Nat) (h : i < l.length) : (Opd.row l)[i * 2]? = some (.int l[i].how) := q7n Opd.enc 2 Opd.len l i 0 h (by omega)
@[simp] theorem Opd.row_get1 (l : List Opd) (i : Nat) (h : i < l.length) : (Opd.row l)[i * 2 + 1]? = some (q5k false l[i].marks) := q7n Opd.enc 2 Opd.len l i 1 h (by omega)
structure Act where
 kind : Int
 time : Int
 card : Card
 key : Sh
 shown : Shn
def Act.enc (x : Act) : List PV := .int x.kind :: .int x.time :: (x.card.enc ++ (x.key.enc ++ x.shown.enc))
abbrev Act.pv (x : Act) : PV := .agg x.enc
section
variable (x : Act) (b k : Nat) (o : PObj)
@[simp] theorem Act.len : x.enc.length = 76 := by simp [Act.enc]
@[simp] theorem Act.sub_all : sub x.enc 0 76 = some x.enc := Go.Pv.sub_all x.len
@[simp] theorem Act.get0 : x.enc[0]? = some (.int x.kind) := rfl
@[simp] theorem Act.get1 : x.enc[1]? = some (.int x.time) := rfl
@[simp] theorem Act.getE0 (h : 0 < x.enc.length) : x.enc[0]'h = .int x.kind := rfl
@[simp] theorem Act.getE1 (h : 1 < x.enc.length) : x.enc[1]'h = .int x.time := rfl
@[simp] theorem Act.sub_card : sub x.enc 2 36 = some x.card.enc := by
 show sub ([PV.int x.kind, .int x.time] ++ (x.card.enc ++ (x.key.enc ++ x.shown.enc))) 2 36 = _
 unfold sub
 rw [if_pos (by simp), List.drop_left' (by rfl), List.take_left' (by simp)]
@[simp] theorem Act.sub_key : sub x.enc 38 4 = some x.key.enc := by
 have e : x.enc = ([PV.int x.kind, .int x.time] ++ x.card.enc) ++ (x.key.enc ++ x.shown.enc) := by simp [Act.enc]
 rw [e]
 unfold sub
 rw [if_pos (by simp), List.drop_left' (by simp), List.take_left' (by simp)]
@[simp] theorem Act.sub_shown : sub x.enc 42 34 = some x.shown.enc := by
 have e : x.enc = ([PV.int x.kind, .int x.time] ++ x.card.enc ++ x.key.enc) ++ x.shown.enc := by simp [Act.enc]
 rw [e]
 unfold sub
 rw [if_pos (by simp), List.drop_left' (by simp), List.take_of_length_le (by simp)]
end
open Go.Pv
set_option maxRecDepth 100000
set_option maxHeartbeats 4000000
theorem PDef.weak {P : Program} {g : FuncId} {ps : List PV} {u : PMode} {st : q5d} {Q Q' : PMode → q5d → Prop} (h : PDef P g ps u st Q) (hq : ∀ u s, Q u s → ∃ s', StLe s' s ∧ Q' u s') : PDef P g ps u st Q' := by
 obtain ⟨h1, h2⟩ := h
 refine ⟨h1, fun I w vs fu a b c => ?_⟩
 obtain ⟨k1, k2⟩ := h2 I w vs fu a b c
 refine ⟨k1, fun cc cs hu hr => ?_⟩
 obtain ⟨en, u', w2, fr, ⟨hR1, I', st', i1, i2, i3, u'', i4, i5⟩, rest⟩ := k2 cc cs hu hr
 obtain ⟨s', j1, j2⟩ := hq _ _ i5
 exact ⟨en, u', w2, fr, ⟨hR1, I', s', i1, i2, i3.le j1, u'', i4, j2⟩, rest⟩
theorem HasR.defsW {P : Program} (q5n : P.follows .mixedOrders = true) {g : FuncId} {m : MRFunc} (h : HasR P g m) {nt np d : Nat} {rs : List MRes} {c : MCode} (hm : m = ⟨nt, np, d, rs, c⟩) {ps : List PV} {u : PMode} {st st' : q5d} (hlen : ps.length = np)
  (hw : xwp P c (fun ex s => j2m rs (fun _ s => StLe st' s) (fun _ _ => False) ex s) ⟨k0o (q6y 0 ps) (some d) (recovered u), st⟩) : Defs P g ps u st .returning st' :=
 PDef.weak (h.walk q5n hm hlen (Q := fun v s => v = .returning ∧ StLe st' s) (by
  have e : (fun (_ : PV) (s : q5d) => PMode.returning = .returning ∧ StLe st' s) = fun _ s => StLe st' s := by funext _ s; simp
  rw [e]; exact hw)) fun _ s ⟨h1, h2⟩ => ⟨st', h2, h1, rfl⟩
def wiL (n limit : Int) : Bool := decide (0 ≤ n) && decide (n < limit)
theorem q61 (n limit : Int) (st : q5d) : Rets P F.q07 [.int n, .int limit] st (.bool (wiL n limit)) := by
 refine H.q07.pure q5n rfl rfl ?_
 repeat' (first 
  | (with_reducible refine And.intro (fun h => ?_) (fun h => ?_)) <;> (try (exfalso; omega))
  | (simp -dsimp -implicitDefEqProofs [wiL, *]))
 all_goals (intros; omega)
theorem q6n (e : Int) (st : q5d) : Rets P F.q0y [.bool true, .int e] st (.tuple []) := by
 refine H.q0y.pure q5n rfl rfl ?_
 repeat' (simp -dsimp -implicitDefEqProofs [*])
theorem q8i (e : Int) (st : q5d) : Panics P F.q0y [.bool false, .int e] st (.iface T.openingstop (.agg [.int e])) := by
 refine H.q0y.panics q5n rfl rfl ?_
 repeat' (simp -dsimp -implicitDefEqProofs [*])
theorem k2q (b : Nat) (st : q5d) : Defs P F.q0t [.ptr b 0] .returning st .returning st := by
 refine H.q0t.defs q5n rfl rfl ?_
 repeat' (simp -dsimp -implicitDefEqProofs [*])
theorem q9p (q : Nat) (n m : Int) (st : q5d) (hq : q5w st q = some (.arr T.apiErrno [.int m])) : Defs P F.q0t [.ptr q 0] (.panicking (.iface T.openingstop (.agg [.int n]))) st .returning (k0a st q (.arr T.apiErrno [.int n])) := by
 refine HasR.defsW q5n H.q0t rfl rfl ?_
 repeat' (first 
  | (with_reducible refine Fresh.intro fun b hb => ?_) <;> (try simp -dsimp -implicitDefEqProofs [*] at hb)
  | (simp -dsimp -implicitDefEqProofs [*]))
 have hne := q6m hb hq
 repeat' (simp -dsimp -implicitDefEqProofs [*])
def k1h (a b : Int) : Int := if a < b then -1 else if b < a then 1 else 0
theorem j0q (a : Int) (st : q5d) : Rets P F.q38 [.int a] st (.bool false) := by
 refine H.q38.pure q5n rfl rfl ?_
 repeat' (simp -dsimp -implicitDefEqProofs [*])
theorem k39 (a b : Int) (st : q5d) : Rets P F.q0z [.int a, .int b] st (.int (k1h a b)) := by
 refine H.q0z.pure q5n rfl rfl ?_
 repeat' (first 
  | (with_reducible refine Rets.xcall (j0q ..) ?_)
  | (with_reducible refine And.intro (fun h => ?_) (fun h => ?_)) <;> (try (exfalso; omega))
  | (simp -dsimp -implicitDefEqProofs [*]))
 all_goals (unfold k1h; grind)
theorem z5l (x : Card) (j : Int) (st : q5d) : Rets P F.q3x [x.pv, .int j] st (.int (k1h x.j j)) := by
 refine H.q3x.pure q5n rfl rfl ?_
 repeat' (first 
  | (with_reducible refine Fresh.intro fun b hb => ?_) <;> (try simp -dsimp -implicitDefEqProofs [*] at hb)
  | (with_reducible refine Rets.xcall (k39 _ _ _) ?_)
  | (simp -dsimp -implicitDefEqProofs [*]))
theorem k47 (x y : Card) (st : q5d) : Rets P F.q2k [x.pv, y.pv] st (.int (k1h x.j y.j)) := by
 refine H.q2k.pure q5n rfl rfl ?_
 repeat' (first 
  | (with_reducible refine Fresh.intro fun b hb => ?_) <;> (try simp -dsimp -implicitDefEqProofs [*] at hb)
  | (with_reducible refine Rets.xcall (k39 _ _ _) ?_)
  | (simp -dsimp -implicitDefEqProofs [*]))
theorem k3s (x y : Shn) (st : q5d) : Rets P F.q2c [x.pv, y.pv] st (.int (k1h x.j y.j)) := by
 refine H.q2c.pure q5n rfl rfl ?_
 repeat' (first 
  | (with_reducible refine Fresh.intro fun b hb => ?_) <;> (try simp -dsimp -implicitDefEqProofs [*] at hb)
  | (with_reducible refine Rets.xcall (k39 _ _ _) ?_)
  | (simp -dsimp -implicitDefEqProofs [*]))
def or3 (a b c : Int) : Int := if a ≠ 0 then a else if b ≠ 0 then b else c
theorem j6m (a b c : Int) (t : Bool) (st : q5d) : Rets P F.q4y [.list t [.int a, .int b, .int c] 3] st (.int (or3 a b c)) := by
 refine H.q4y.pure q5n rfl rfl ?_
 repeat' (simp -dsimp -implicitDefEqProofs [*])
 refine q5g (fun n : Nat => [(3, .int 0), (6, .list t [.int a, .int b, .int c] 3), (7, .int 3), (8, .int n)]) (fun _ => st) (fun n => n ≤ 3 ∧ (0 < n → a = 0) ∧ (1 < n → b = 0) ∧ (2 < n → c = 0)) (fun n => 3 - n) 0 ⟨by omega, by omega, by omega, by omega⟩ (by simp) (.refl _) ?_
 rintro n ⟨hn, h1, h2, h3⟩
 have w1 : IntKind.i64.wrap 1 = 1 := by decide
 have w2 : IntKind.i64.wrap 2 = 2 := by decide
 have w3 : IntKind.i64.wrap 3 = 3 := by decide
 rcases (show n = 0 ∨ n = 1 ∨ n = 2 ∨ n = 3 by omega) with rfl | rfl | rfl | rfl
 ·clear h1 h2 h3
  by_cases ha : a = 0
  ·subst ha
   repeat' (simp -dsimp -implicitDefEqProofs [*])
   exact Next.intro 1 ⟨by omega, fun _ => rfl, by omega, by omega⟩ (by omega) (by simp [w1]) q5q
  ·repeat' (simp -dsimp -implicitDefEqProofs [or3, *])
 ·have ha := h1 (by omega)
  clear h1 h2 h3
  subst ha
  by_cases hb : b = 0
  ·subst hb
   repeat' (simp -dsimp -implicitDefEqProofs [*])
   exact Next.intro 2 ⟨by omega, fun _ => rfl, fun _ => rfl, by omega⟩ (by omega) (by simp [w2]) q5q
  ·repeat' (simp -dsimp -implicitDefEqProofs [or3, *])
 ·have ha := h1 (by omega)
  have hb := h2 (by omega)
  clear h1 h2 h3
  subst ha
  subst hb
  by_cases hc : c = 0
  ·subst hc
   repeat' (simp -dsimp -implicitDefEqProofs [*])
   exact Next.intro 3 ⟨by omega, fun _ => rfl, fun _ => rfl, fun _ => rfl⟩ (by omega) (by simp [w3]) q5q
  ·repeat' (simp -dsimp -implicitDefEqProofs [or3, *])
 ·have ha := h1 (by omega)
  have hb := h2 (by omega)
  have hc := h3 (by omega)
  clear h1 h2 h3
  subst ha
  subst hb
  subst hc
  repeat' (simp -dsimp -implicitDefEqProofs [or3, *])
def q98 (x y : Sh) : Int := or3 (k1h x.o y.o) (k1h x.c y.c) (k1h x.h y.h)
theorem k3t (x y : Sh) (st : q5d) : Rets P F.q2b [x.pv, y.pv] st (.int (q98 x y)) := by
 refine H.q2b.pure q5n rfl rfl ?_
 repeat' (first 
  | (with_reducible refine Fresh.intro fun b hb => ?_) <;> (try simp -dsimp -implicitDefEqProofs [*] at hb)
  | (with_reducible refine Rets.xcall (k39 _ _ _) ?_)
  | (with_reducible refine Rets.xcall (j6m _ _ _ _ _) ?_)
  | (with_reducible refine DrawLate.intro [] ?_)
  | (simp -dsimp -implicitDefEqProofs [q98, *]))
theorem z89 {l m : List Int} (h1 : l.length = m.length) (h : ∀ j (h : j < l.length) (h2 : j < m.length), l[j] = m[j]) : l = m := List.ext_getElem h1 h
theorem z11 (t u : Bool) (l m : List Int) (hl : l.length ≤ 9223372036854775807) (st : q5d) : Rets P F.q1j [q5k t l, q5k u m] st (.bool (decide (l = m))) := by
 by_cases hlm : l.length = m.length
 case neg =>
  have hne : ¬ l = m := fun e => hlm (by rw [e])
  have hlm2 : ¬ (l.length : Int) = m.length := by omega
  rw [decide_eq_false hne]
  refine H.q1j.pure q5n rfl rfl ?_
  repeat' (simp -dsimp -implicitDefEqProofs [*])
 have hlm2 : (l.length : Int) = m.length := by omega
 refine H.q1j.view q5n rfl rfl ?_
 obtain ⟨w, hw⟩ : ∃ w, w = decide (l = m) := ⟨_, rfl⟩
 rw [← hw]
 have kw := Hid.mk hw
 clear hw
 repeat' (simp -dsimp -implicitDefEqProofs [*])
 refine q5g (fun n : Nat => [(0, q5k t l), (1, q5k u m), (12, .int l.length), (13, .int n)]) (fun _ => st) (fun n => n ≤ l.length ∧ Hid (∀ j, j < n → ∀ (h : j < l.length) (h2 : j < m.length), l[j] = m[j])) (fun n => l.length - n) 0 ⟨Nat.zero_le _, ⟨fun j h => absurd h (by omega)⟩⟩ (by simp [*]) (.refl _) ?_
 rintro n ⟨hn, hI⟩
 by_cases hnl : n < l.length
 ·have hnm : n < m.length := by omega
  have hwr := q5h (n := n) (by omega)
  have g1 := q6d l n hnl
  have g2 := q6d m n hnm
  by_cases he : l[n] = m[n]
  ·have hI2 : Hid (∀ j, j < n + 1 → ∀ (h : j < l.length) (h2 : j < m.length), l[j] = m[j]) := ⟨fun j hj h h2 => if e : j = n then by subst e; exact he else hI.out j (by omega) h h2⟩
   clear hI kw
   repeat' (simp -dsimp -implicitDefEqProofs [*])
   exact Next.intro (n + 1) ⟨by omega, hI2⟩ (by omega) (by simp [hlm]) q5q
  ·have hw : w = false := by rw [kw.out]; exact decide_eq_false fun e => he (by subst e; rfl)
   subst hw
   clear hI kw
   repeat' (simp -dsimp -implicitDefEqProofs [*])
   exact .same ⟨rfl, rfl⟩
 ·have hw : w = true := by rw [kw.out]; exact decide_eq_true (z89 hlm fun j h h2 => hI.out j (by omega) h h2)
  subst hw
  obtain rfl : n = l.length := by omega
  clear hI kw
  repeat' (simp -dsimp -implicitDefEqProofs [*])
  exact .same ⟨rfl, rfl⟩
def y45 (l : List Int) (n : Int) (st : q5d) (e : PEnd) (s : q5d) : Prop := ∃ x : Int, (0 ≤ x ↔ n ∈ l) ∧ e = .ret (.int x) ∧ s = st
theorem z7e (t : Bool) (l : List Int) (hl : l.length ≤ 9223372036854775807) (n : Int) (st : q5d) : PCalls P F.q2m [q5k t l, .int n] st (y45 l n st) := by
 refine H.q2m.view q5n rfl rfl ?_
 repeat' (simp -dsimp -implicitDefEqProofs [*])
 refine q5g (fun k : Nat => [(0, q5k t l), (1, .int n), (7, .int l.length), (8, .int k)]) (fun _ => st) (fun k => k ≤ l.length ∧ Hid (∀ j, j < k → ∀ (h : j < l.length), l[j] ≠ n)) (fun k => l.length - k) 0 ⟨Nat.zero_le _, ⟨fun j h => absurd h (by omega)⟩⟩ (by simp) (.refl _) ?_
 rintro k ⟨hk, hI⟩
 by_cases hkl : k < l.length
 ·have hwr := q5h (n := k) (by omega)
  have g1 := q6d l k hkl
  by_cases he : n = l[k]
  ·have hm : Hid (l[k] ∈ l) := ⟨List.getElem_mem hkl⟩
   clear hI
   repeat' (simp -dsimp -implicitDefEqProofs [*])
   exact .same ⟨(k : Int), ⟨fun _ => hm.out, fun _ => by omega⟩, rfl, rfl⟩
  ·have hI2 : Hid (∀ j, j < k + 1 → ∀ (h : j < l.length), l[j] ≠ n) := ⟨fun j hj h => if e : j = k then by subst e; exact fun e => he e.symm else hI.out j (by omega) h⟩
   clear hI
   repeat' (simp -dsimp -implicitDefEqProofs [*])
   exact Next.intro (k + 1) ⟨by omega, hI2⟩ (by omega) (by simp) q5q
 ·have hm : Hid (¬ n ∈ l) := ⟨fun h => by
   obtain ⟨j, hj, e⟩ := List.mem_iff_getElem.1 h
   exact hI.out j (by omega) hj e⟩
  obtain rfl : k = l.length := by omega
  clear hI
  repeat' (simp -dsimp -implicitDefEqProofs [*])
  exact .same ⟨-1, ⟨fun h => absurd h (by decide), fun h => absurd h hm.out⟩, rfl, rfl⟩
theorem z0v (t : Bool) (l : List Int) (hl : l.length ≤ 9223372036854775807) (n : Int) (st : q5d) : Rets P F.q17 [q5k t l, .int n] st (.bool (decide (n ∈ l))) := by
 obtain ⟨w, hw⟩ : ∃ w, w = decide (n ∈ l) := ⟨_, rfl⟩
 rw [← hw]
 refine H.q17.view q5n rfl rfl ?_
 repeat' (simp -dsimp -implicitDefEqProofs [*])
 refine q50 (z7e t l hl n st) fun e s hq => ?_
 obtain ⟨x, hx, rfl, rfl⟩ := hq
 have hx2 : decide (0 ≤ x) = w := by rw [hw]; exact decide_eq_decide.2 hx
 clear hx hw
 repeat' (simp -dsimp -implicitDefEqProofs [*])
 exact .same ⟨rfl, rfl⟩
theorem k65 (s : Ses) (hj : s.judges.length ≤ 9223372036854775807) (n : Int) (st : q5d) : Rets P F.q1u [s.pv, .int n] st (.bool (decide (n ∈ s.judges))) := by
 have c := z0v false s.judges hj n
 refine H.q1u.pure q5n rfl rfl ?_
 repeat' (first 
  | (with_reducible refine Fresh.intro fun b hb => ?_) <;> (try simp -dsimp -implicitDefEqProofs [*] at hb)
  | (with_reducible refine Rets.xcall (c _) ?_)
  | (simp -dsimp -implicitDefEqProofs [*]))
def q8j (s : Ses) : Bool := decide (s.deadline ≤ s.time) || decide ((s.sealed.length : Int) = s.judges.length)
theorem q8k (s : Ses) (st : q5d) : Rets P F.q0x [s.pv] st (.bool (q8j s)) := by
 refine H.q0x.pure q5n rfl rfl ?_
 repeat' (first 
  | (with_reducible refine Fresh.intro fun b hb => ?_) <;> (try simp -dsimp -implicitDefEqProofs [*] at hb)
  | (with_reducible refine And.intro (fun h => ?_) (fun h => ?_)) <;> (try (exfalso; omega))
  | (simp -dsimp -implicitDefEqProofs [q8j, *]))
 all_goals (intros; omega)
def z3n (x y : Card) : Bool := decide (x.r = y.r) && decide (x.e = y.e) && decide (x.c = y.c) && decide (x.d = y.d)
theorem k6f (x y : Card) (hx : x.c.length ≤ 9223372036854775807) (st : q5d) : Rets P F.q2z [x.pv, y.pv] st (.bool (z3n x y)) := by
 have ce := z11 false false x.c y.c hx
 have hQ := k6c x.d.1 y.d.1 x.d.2 y.d.2
 rw [show decide (x.d.1 = y.d.1) = decide (x.d = y.d) from decide_eq_decide.2 Subtype.ext_iff.symm] at hQ
 refine H.q2z.pure q5n rfl rfl ?_
 unfold z3n
 generalize decide (x.d = y.d) = D at *
 generalize decide (x.c = y.c) = E at *
 repeat' (first 
  | (with_reducible refine Fresh.intro fun b hb => ?_) <;> (try simp -dsimp -implicitDefEqProofs [*] at hb)
  | (with_reducible refine Rets.xcall (ce _) ?_)
  | (with_reducible refine And.intro (fun h => ?_) (fun h => ?_)) <;> (try (exfalso; omega))
  | (simp -dsimp -implicitDefEqProofs [*]))
def z3o (x y : Shn) : Bool := decide (x.k = y.k) && decide (x.s = y.s)
theorem k4l (x y : Shn) (hx : x.k.length ≤ 9223372036854775807) (st : q5d) : Rets P F.q2q [x.pv, y.pv] st (.bool (z3o x y)) := by
 have ce := z11 false false x.k y.k hx
 have hQ := k6c x.s.1 y.s.1 x.s.2 y.s.2
 rw [show decide (x.s.1 = y.s.1) = decide (x.s = y.s) from decide_eq_decide.2 Subtype.ext_iff.symm] at hQ
 refine H.q2q.pure q5n rfl rfl ?_
 unfold z3o
 generalize decide (x.s = y.s) = D at *
 generalize decide (x.k = y.k) = E at *
 repeat' (first 
  | (with_reducible refine Fresh.intro fun b hb => ?_) <;> (try simp -dsimp -implicitDefEqProofs [*] at hb)
  | (with_reducible refine Rets.xcall (ce _) ?_)
  | (with_reducible refine And.intro (fun h => ?_) (fun h => ?_)) <;> (try (exfalso; omega))
  | (simp -dsimp -implicitDefEqProofs [*]))
theorem k4m (x y : Sh) (st : q5d) : Rets P F.q2p [x.pv, y.pv] st (.bool (decide (x = y))) := by
 refine H.q2p.pure q5n rfl rfl ?_
 repeat' (first 
  | (with_reducible refine Fresh.intro fun b hb => ?_) <;> (try simp -dsimp -implicitDefEqProofs [*] at hb)
  | (simp -dsimp -implicitDefEqProofs [*]))
open Go.Pv
set_option maxRecDepth 100000
section
variable {α : Type}
def k7x (p : α → Bool) (L : List α) : Int := if L.any p = true then (L.findIdx p : Nat) else -1
theorem q9q {p : α → Bool} {L : List α} {i : Nat} (hi : i < L.length) (h : ∀ j (hj : j < i), p (L[j]'(by omega)) = false) (hp : p L[i] = true) : k7x p L = i := by
 have h1 : L.any p = true := List.any_eq_true.2 ⟨_, List.getElem_mem hi, hp⟩
 have h2 : L.findIdx p = i := by
  rw [List.findIdx_eq hi]
  exact ⟨hp, fun j hj => by simpa using h j hj⟩
 unfold k7x
 rw [if_pos h1, h2]
theorem k02 {p : α → Bool} {L : List α} (h : ∀ j (hj : j < L.length), p L[j] = false) : k7x p L = -1 := by
 have h1 : ¬ L.any p = true := by
  rw [List.any_eq_true]
  rintro ⟨x, hx, hp⟩
  obtain ⟨j, hj, rfl⟩ := List.mem_iff_getElem.1 hx
  rw [h j hj] at hp
  cases hp
 unfold k7x
 rw [if_neg h1]
theorem k6g (p : α → Bool) (L : List α) : decide (0 ≤ k7x p L) = L.any p := by
 unfold k7x
 cases h : L.any p <;> simp
def q53 (c : α → α → Int) : List α → Bool
 | [] => true
 | [_] => true
 | a :: b :: l => decide (c a b < 0) && q53 c (b :: l)
theorem q72 (c : α → α → Int) : ∀ l : List α, q53 c l = true ↔ ∀ i (h : i + 1 < l.length), c l[i] l[i + 1] < 0
 | [] => by simp [q53]
 | [_] => by simp [q53]
 | a :: b :: l => by
  have ih := q72 c (b :: l)
  simp only [q53, Bool.and_eq_true, decide_eq_true_eq, ih]
  constructor
  ·rintro ⟨h1, h2⟩ i h
   cases i with
   | zero => exact h1
   | succ i => exact h2 i (by simpa using h)
  ·intro h
   exact ⟨h 0 (by simp), fun i hi => h (i + 1) (by simpa using hi)⟩
end
open Go.Pv
set_option maxRecDepth 100000
def ins {α : Type} (l : List α) (i : Nat) (x : α) : List α := l.take i ++ x :: l.drop i
theorem q9r {α : Type} (l : List α) (i : Nat) (x : α) (hi : i ≤ l.length) : (ins l i x).length = l.length + 1 := by
 simp [ins]; omega
section
variable {α : Type}
structure Falls (c : α → Int) (l : List α) : Prop where
 out : ∀ a b, a < b → ∀ (h : b < l.length), c l[b] < 0 → ∀ {h' : a < l.length}, c l[a] < 0
def k0m (c : α → Int) (l : List α) : Nat := l.findIdx (fun x => decide (0 ≤ c x))
def k8n (c : α → Int) (l : List α) : Bool := if h : k0m c l < l.length then decide (c l[k0m c l] = 0) else false
theorem k15 {c : α → Int} {l : List α} {i : Nat} (h2 : i ≤ l.length) (h3 : ∀ k, k < i → ∀ h : k < l.length, c l[k] < 0) (h4 : ∀ k, i ≤ k → ∀ h : k < l.length, 0 ≤ c l[k]) : i = k0m c l ∧ k8n c l = (if h : i < l.length then decide (c l[i] = 0) else false) := by
 have e : k0m c l = i := by
  unfold k0m
  rcases Nat.lt_or_ge i l.length with hil | hil
  ·rw [List.findIdx_eq hil]
   refine ⟨by simpa using h4 i (Nat.le_refl _) hil, fun k hk => ?_⟩
   have := h3 k hk (by omega)
   simpa using this
  ·rw [List.findIdx_eq_length.2]
   ·omega
   ·intro x hx
    obtain ⟨k, hk, rfl⟩ := List.mem_iff_getElem.1 hx
    have := h3 k (by omega) hk
    simpa using this
 subst e
 exact ⟨rfl, rfl⟩
end
end Go.Proofs.YtnooplpbpfiapaaGreatDoor
