/- Notes, plain: their messages, reading them, their order. -/
import Derived.Test.YtmlmoaimjifpgaaGreatS58A
import Derived.Test.YtmlmoaimjifpgaaGreatLCd
import Derived.Test.YtmlmoaimjifpgaaGreatCode
import Derived.Test.YtmlmoaimjifpgaaGreatLWd
import Derived.Test.YtmlmoaimjifpgaaGreatLNt
import Derived.Test.YtmlmoaimjifpgaaGreatLLo
import Derived.Test.YtmlmoaimjifpgaaGreatLVf
namespace Go.Proofs.YtmlmoaimjifpgaaGreat
open Go.Pv Go.Pv.Cd
set_option maxRecDepth 100000
set_option maxHeartbeats 4000000
structure Note where
 kind : Int
 ev : Event
 dec : Decision
 deriving DecidableEq, Inhabited
def Event.ints (e : Event) : List Int := [e.no, e.kind, e.round, e.entry, e.judge, e.item, e.value, e.at', e.known]
def Decision.ints (d : Decision) : List Int := [d.no, d.known, d.kind, d.target, d.value, d.eno, d.ekind, d.eround, d.eentry, d.ejudge, d.eitem, d.evalue, d.eat, d.eknown]
def Note.enc (x : Note) : List PV := .int x.kind :: (x.ev.enc ++ x.dec.enc)
abbrev Note.pv (x : Note) : PV := .agg x.enc
section
variable (x : Note) (b k : Nat) (o : PObj)
@[simp] theorem Note.len : x.enc.length = 24 := rfl
@[simp] theorem Note.sub_all : sub x.enc 0 24 = some x.enc := rfl
@[simp] theorem Note.get0 : x.enc[0]? = some (.int x.kind) := rfl
@[simp] theorem Note.getE0 (h : 0 < x.enc.length) : x.enc[0]'h = .int x.kind := rfl
@[simp] theorem Note.subEv : sub x.enc 1 9 = some x.ev.enc := rfl
@[simp] theorem Note.subDec : sub x.enc 10 14 = some x.dec.enc := rfl
@[simp] theorem Note.fz : k3s b o k x.enc = x.enc := by simp [Note.enc, Event.enc, Decision.enc]
end
def Note.row (l : List Note) : List PV := l.flatMap Note.enc
abbrev Note.lst (t : Bool) (l : List Note) : PV := .list t (Note.row l) l.length
@[simp] theorem Note.row_len (l : List Note) : (Note.row l).length = l.length * 24 := q53 Note.enc 24 Note.len l
@[simp] theorem Note.row_nil : Note.row [] = [] := rfl
@[simp] theorem Note.row_cons (x : Note) (l : List Note) : Note.row (x :: l) = x.enc ++ Note.row l := rfl
@[simp] theorem Note.row_eq_nil (l : List Note) : Note.row l = [] ↔ l = [] := by
 constructor
 ·intro h
  have := congrArg List.length h
  rw [Note.row_len] at this
  cases l with
  | nil => rfl
  | cons => simp at this
 ·rintro rfl; rfl
theorem Note.row_append (l m : List Note) : Note.row (l ++ m) = Note.row l ++ Note.row m := by simp [Note.row]
@[simp] theorem Note.row_sub (l : List Note) (i : Nat) (h : i < l.length) : sub (Note.row l) (i * 24) 24 = some (l[i]).enc := q78 Note.enc 24 Note.len l i h
@[simp] theorem Note.row_fz (b : Nat) (o : PObj) (k : Nat) (l : List Note) : k3s b o k (Note.row l) = Note.row l := z2i Note.enc (fun b o k x => Note.fz x b k o) b o k l
def Note.ints (n : Note) : List Int := n.kind :: (n.ev.ints ++ n.dec.ints)
def q9u (l : List Int) : Note := ⟨l.getD 0 0, ⟨l.getD 1 0, l.getD 2 0, l.getD 3 0, l.getD 4 0, l.getD 5 0, l.getD 6 0, l.getD 7 0, l.getD 8 0, l.getD 9 0⟩, ⟨l.getD 10 0, l.getD 11 0, l.getD 12 0, l.getD 13 0, l.getD 14 0, l.getD 15 0, l.getD 16 0, l.getD 17 0, l.getD 18 0, l.getD 19 0, l.getD 20 0, l.getD 21 0, l.getD 22 0, l.getD 23 0⟩⟩
@[simp] theorem Note.ints_len (n : Note) : n.ints.length = 24 := rfl
theorem Note.enc_ints (n : Note) : n.enc = n.ints.map fun x => PV.int x := rfl
theorem k39 (n : Note) : q9u n.ints = n := rfl
theorem k82 {l : List Int} (h : l.length = 24) : (q9u l).ints = l := by
 match l, h with
 | [_, _, _, _, _, _, _, _, _, _, _, _, _, _, _, _, _, _, _, _, _, _, _, _], _ => rfl
def zeroD : Decision := ⟨0, 0, 0, 0, 0, 0, 0, 0, 0, 0, 0, 0, 0, 0⟩
def q5c (n : Note) : Bool := if n.kind = 1 then q7m n.ev && decide (n.dec = zeroD) else decide (n.kind = 2) && q66 n.dec && decide (n.ev = zeroE)
abbrev Sml (x : Int) : Prop := 0 ≤ x ∧ x ≤ 2097152
theorem k83 {e : Event} (h : q7m e = true) : ∀ x ∈ e.ints, Sml x := by
 unfold q7m k2t btw at h
 simp only [Bool.and_eq_true, decide_eq_true_eq] at h
 unfold Event.ints
 simp only [List.forall_mem_cons]
 split at h
 ·simp only [Bool.and_eq_true, decide_eq_true_eq] at h
  refine ⟨?_, ?_, ?_, ?_, ?_, ?_, ?_, ?_, ?_, fun x hx => absurd hx List.not_mem_nil⟩ <;> refine ⟨?_, ?_⟩ <;> omega
 ·split at h
  ·simp only [Bool.and_eq_true, decide_eq_true_eq, beq_iff_eq] at h
   refine ⟨?_, ?_, ?_, ?_, ?_, ?_, ?_, ?_, ?_, fun x hx => absurd hx List.not_mem_nil⟩ <;> refine ⟨?_, ?_⟩ <;> omega
  ·split at h
   ·simp only [Bool.and_eq_true, decide_eq_true_eq, beq_iff_eq] at h
    refine ⟨?_, ?_, ?_, ?_, ?_, ?_, ?_, ?_, ?_, fun x hx => absurd hx List.not_mem_nil⟩ <;> refine ⟨?_, ?_⟩ <;> omega
   ·simp at h
theorem k4a : ∀ x ∈ zeroE.ints, Sml x := by decide
theorem z73 : ∀ x ∈ zeroD.ints, Sml x := by decide
theorem j65 (d : Decision) : d.ints = [d.no, d.known, d.kind, d.target, d.value] ++ d.event.ints := rfl
theorem z74 {d : Decision} (h : q66 d = true) : ∀ x ∈ d.ints, Sml x := by
 unfold q66 btw at h
 simp only [Bool.and_eq_true, decide_eq_true_eq] at h
 obtain ⟨⟨⟨a1, a2⟩, a3, a4⟩, hr⟩ := h
 have key : Sml d.kind ∧ Sml d.target ∧ Sml d.value ∧ ∀ x ∈ d.event.ints, Sml x := by
  unfold q7r at hr
  have tz : k2v d = true → Sml d.target ∧ d.event = zeroE := fun hd => by
   unfold k2v at hd
   simp only [Bool.and_eq_true, decide_eq_true_eq] at hd
   exact ⟨⟨hd.1.1, by omega⟩, hd.2⟩
  split at hr
  ·rename_i hd
   unfold k38 at hr
   simp only [Bool.and_eq_true, decide_eq_true_eq] at hr
   obtain ⟨t1, t2⟩ := tz hr.1
   have v := hr.2
   exact ⟨⟨by omega, by omega⟩, t1, ⟨by omega, by omega⟩, by rw [t2]; exact k4a⟩
  ·split at hr
   ·rename_i hd
    unfold k8z at hr
    simp only [Bool.and_eq_true, decide_eq_true_eq] at hr
    obtain ⟨t1, t2⟩ := tz hr.1.1
    have v1 := hr.1.2
    have v2 := hr.2
    exact ⟨⟨by omega, by omega⟩, t1, ⟨by omega, by omega⟩, by rw [t2]; exact k4a⟩
   ·split at hr
    ·rename_i hd
     unfold addD at hr
     simp only [Bool.and_eq_true, decide_eq_true_eq] at hr
     have t1 := hr.1.1
     have v1 := hr.1.2
     exact ⟨⟨by omega, by omega⟩, ⟨by omega, by omega⟩, ⟨by omega, by omega⟩, k83 hr.2⟩
    ·cases hr
 rw [j65]
 intro x hx
 rcases List.mem_append.1 hx with hx | hx
 ·simp only [List.mem_cons, List.not_mem_nil, or_false] at hx
  rcases hx with rfl | rfl | rfl | rfl | rfl
  ·exact ⟨a1, by omega⟩
  ·exact ⟨a3, by omega⟩
  ·exact key.1
  ·exact key.2.1
  ·exact key.2.2.1
 ·exact key.2.2.2 x hx
theorem q97 {n : Note} (h : q5c n = true) : ∀ x ∈ n.ints, 0 ≤ x ∧ x ≤ 2097152 := by
 unfold q5c at h
 unfold Note.ints
 intro x hx
 split at h
 ·rename_i hk
  simp only [Bool.and_eq_true, decide_eq_true_eq] at h
  rcases List.mem_cons.1 hx with rfl | hx
  ·omega
  ·rcases List.mem_append.1 hx with hx | hx
   ·exact k83 h.1 x hx
   ·rw [h.2] at hx; exact z73 x hx
 ·simp only [Bool.and_eq_true, decide_eq_true_eq] at h
  rcases List.mem_cons.1 hx with rfl | hx
  ·omega
  ·rcases List.mem_append.1 hx with hx | hx
   ·rw [h.2] at hx; exact k4a x hx
   ·exact z74 h.1.2 x hx
def y3b (n : Note) : Vl := .list (n.ints.map .int)
def msg (n : Note) : List (BitVec 8) := (y3b n).enc
theorem z5j {d : Nat} : ∀ {l : List Int}, (∀ x ∈ l, -9223372036854775808 ≤ x ∧ x < 9223372036854775808) → Vl.fits d (l.map .int)
 | [], _ => trivial
 | x :: l, h => ⟨by simp only [Vl.fit]; exact h x (List.mem_cons_self ..), z5j fun y hy => h y (List.mem_cons_of_mem _ hy)⟩
theorem y0w {n : Note} (h : q5c n = true) : (y3b n).fit 16 := by
 unfold y3b
 rw [Vl.fit]
 refine ⟨by rw [List.length_map, Note.ints_len]; decide, z5j fun x hx => ?_⟩
 have := q97 h x hx
 omega
def k1m : List Vl → Option (List Int)
 | [] => some []
 | .int x :: l => (k1m l).map (x :: ·)
 | _ :: _ => none
theorem z5k : ∀ l : List Int, k1m (l.map .int) = some l
 | [] => rfl
 | x :: l => by rw [List.map_cons, k1m, z5k l]; rfl
theorem k84 : ∀ {l : List Vl} {k : List Int}, k1m l = some k → l = k.map .int
 | [], k, h => by simp only [k1m, Option.some.injEq] at h; subst h; rfl
 | .int x :: l, k, h => by
  rw [k1m] at h
  cases e : k1m l with
  | none => rw [e] at h; cases h
  | some k' =>
   rw [e] at h
   simp only [Option.map_some, Option.some.injEq] at h
   subst h
   rw [List.map_cons, k84 e]
 | .text s :: l, k, h => by simp [k1m] at h
 | .list s :: l, k, h => by simp [k1m] at h
def q9b (b : List (BitVec 8)) : Option Note := match Go.Pv.Cd.decode b with
 | some (.list l) => match k1m l with
  | some k => if k.length = 24 ∧ q5c (q9u k) = true then some (q9u k) else none
  | none => none
 | _ => none
theorem k5d {n : Note} (h : q5c n = true) : q9b (msg n) = some n := by
 unfold q9b msg
 rw [j07 (y0w h)]
 unfold y3b
 simp only
 rw [z5k]
 simp only [Note.ints_len, k39, true_and]
 rw [if_pos h]
theorem z2x {b : List (BitVec 8)} {n : Note} (h : q9b b = some n) : q5c n = true ∧ b = msg n := by
 unfold q9b at h
 split at h
 ·rename_i l e
  split at h
  ·rename_i k e2
   split at h
   ·rename_i hc
    simp only [Option.some.injEq] at h
    subst h
    refine ⟨hc.2, ?_⟩
    rw [(j08 e).1, k84 e2]
    unfold msg y3b
    rw [k82 hc.1]
   ·cases h
  ·cases h
 ·cases h
def toU (l : List (BitVec 8)) : List UInt8 := l.map UInt8.ofBitVec
theorem y0x {l m : List (BitVec 8)} (h : toU l = toU m) : l = m := by
 have := congrArg (fun q => q.map UInt8.toBitVec) h
 simpa [toU, Function.comp_def] using this
def q55 (a b : Note) : Int := Lib.compareBytes (toU (msg a)) (toU (msg b))
theorem cmpN_ord : Cmp q55 fun n => q5c n = true where
 self a := z05 _
 eq a b ha hb h := by
  have e := y0x (z9t h)
  have := k5d ha
  rw [e, k5d hb] at this
  exact (Option.some.inj this).symm
 swap a b := z06 _ _
 trans a b d h k := k8p h k
open Go.Pv
set_option maxRecDepth 100000
set_option maxHeartbeats 4000000
open Go.Pv
set_option maxRecDepth 100000
set_option maxHeartbeats 4000000
theorem q9c {α : Type} {row : List α → List PV} {k : Nat} (hrl : ∀ l, (row l).length = l.length * k) (hra : ∀ l m, row (l ++ m) = row l ++ row m) {T : TypeId} {bytes : Nat} {st : q43} {K : PV → q43 → Prop}
  (o : Option (Acc α)) (ho : accOk row k st o) (xs : List α) {new : List PV} {m : Nat} (hnew : row xs = new) (hm : xs.length = m) (hsz : ((q5m o).length + m) * bytes ≤ 140737488355328)
  (h : ∀ o' : Option (Acc α), accOk row k st o' → q5m o' = q5m o ++ xs → K (q69 o') (accS T st o')) : q6o T bytes k (q69 o) new m (accS T st o) K := by
 by_cases h0 : m = 0
 ·have hx : xs = [] := List.length_eq_zero_iff.1 (hm.trans h0)
  subst hx
  cases o with
  | none =>
   subst h0
   simp only [z4o, k0u]
   rw [k34]
   exact ⟨fun _ => h none trivial rfl, fun h => absurd rfl h⟩
  | some a =>
   obtain ⟨ha, hb⟩ := ho
   refine q8o hrl hra ha (by simp) [] hnew hm hsz fun a' ha' hl' hb' => ?_
   have e : k1x a.b (accS T st (some a)) = st := by simp [q7e hb]
   rw [e] at hb' ⊢
   exact h (some a') ⟨ha', hb'⟩ hl'
 ·exact q82 hrl hra o ho xs hnew hm (by omega) hsz h
open Go.Pv
set_option maxRecDepth 100000
set_option maxHeartbeats 4000000
def z9y (f : Nat → PV) (k : Nat) : Nat → List PV
 | 0 => []
 | n + 1 => f k :: z9y f (k + 1) n
theorem z5l (b k : Nat) (st : q43) : Rets P F.q31 [.ptr b k] st (.agg (z9y (.ptr b) k 9)) := by
 refine H.q31.view q5d rfl rfl ?_
 repeat' (first 
  | (with_reducible refine Fresh.intro fun b hb => ?_) <;> (try simp -dsimp -implicitDefEqProofs [*] at hb)
  | (simp -dsimp -implicitDefEqProofs [*]))
 exact RetView.drop (st' := st) q5k ⟨rfl, rfl⟩
theorem q9v {α : Type} {L : List α} {i : Nat} {x : α} (h : L[i]? = some x) (h2 : i < L.length) : L[i]'h2 = x := by
 rw [List.getElem?_eq_getElem h2] at h
 exact Option.some.inj h
open Go.Pv
set_option maxRecDepth 100000
set_option maxHeartbeats 8000000
def y9w (st : q43) (e : PEnd) (s : q43) : Prop := ∃ o : Option (Acc PV), accOk (fun l => l) 1 st o ∧ q5m o = [] ∧ e = .ret (q69 o) ∧ s = accS T.int_2 st o
def y8e (l : List Unit) : List PV := List.replicate l.length (.val (.pointer none))
theorem j1i (n : Nat) (hn : n ≤ 100000) (st : q43) : PCalls P F.q2m [.nil, .int (n : Int)] st (y9w st) := by
 refine H.q2m.view q5d rfl rfl ?_
 have hw : IntKind.i64.wrap (n : Int) = n := k1f (by omega)
 have hw0 : IntKind.i64.wrap 0 = 0 := rfl
 by_cases h0 : n = 0
 ·subst h0
  repeat' (simp -dsimp -implicitDefEqProofs [*])
  exact .same ⟨none, trivial, rfl, rfl, rfl⟩
 ·have h0' : (0 : Int) < n := by omega
  repeat' (first 
   | (with_reducible refine And.intro (fun h => ?_) (fun h => ?_)) <;> (try (exfalso; omega))
   | ((with_reducible refine q5i ?_ fun hk => ?_); omega)
   | (simp -dsimp -implicitDefEqProofs [-q45, *]))
  refine q82 (row := y8e) (k := 1) (T := T.int_2) (st := st) (by simp [y8e]) (by intro l m; simp [y8e]) none trivial (List.replicate n ()) (by simp [y8e, List.flatten_replicate_singleton]) (by simp) (by omega) (by simp; omega) fun o' h1 h2 => ?_
  cases o' with
  | none => exact absurd (congrArg List.length h2) (by simpa using fun h => h0 h.symm)
  | some a =>
   simp only [k52] at h1
   simp only [q79, q7f, List.nil_append] at h2
   obtain ⟨⟨a1, a2, a3, a4⟩, a5⟩ := h1
   have hl : a.l.length = n := by rw [h2]; simp
   rw [hl] at a1 a4
   simp only [q7q, q5r, hl]
   clear h2 hl
   obtain ⟨L, b, cap, R⟩ := a
   simp only at a1 a2 a3 a4 a5
   repeat' (simp -dsimp -implicitDefEqProofs [*])
   exact .same ⟨some ⟨[], b, cap, R⟩, ⟨⟨by simp, a2, a3, by simp⟩, a5⟩, rfl, rfl, rfl⟩
def llP (ls : List (Bool × List PV)) : List PV := ls.map fun q => .list q.1 q.2 q.2.length
def z9z (ls : List (Bool × List PV)) (i : Nat) : Nat := ((ls.take i).map fun q => q.2.length).sum
def j66 (ls : List (Bool × List PV)) (i : Nat) : List PV := (ls.take i).flatMap fun q => q.2
theorem z5m {ls : List (Bool × List PV)} {i : Nat} (h : i < ls.length) : z9z ls (i + 1) = z9z ls i + ls[i].2.length := by
 unfold z9z
 rw [List.take_succ_eq_append_getElem h, List.map_append, List.sum_append]
 simp
theorem j32 {ls : List (Bool × List PV)} {i : Nat} (h : i < ls.length) : j66 ls (i + 1) = j66 ls i ++ ls[i].2 := by
 unfold j66
 rw [List.take_succ_eq_append_getElem h, List.flatMap_append]
 simp
theorem z90 (ls : List (Bool × List PV)) (i : Nat) : (j66 ls i).length = z9z ls i := by
 unfold j66 z9z
 rw [List.length_flatMap]
theorem j33 {ls : List (Bool × List PV)} {i : Nat} (h : i < ls.length) : (llP ls)[i]? = some (.list ls[i].1 ls[i].2 ls[i].2.length) := by simp [llP, h]
@[simp] theorem y9x (ls : List (Bool × List PV)) : (llP ls).length = ls.length := by simp [llP]
theorem z5n (t : Bool) (ls : List (Bool × List PV)) (hl : ls.length ≤ 10) (hk : ∀ q ∈ ls, q.2.length ≤ 100) (st : q43) : Rets P F.q1b [.list t (llP ls) ls.length] st (.list false (j66 ls ls.length) (z9z ls ls.length)) := by
 have hT : ∀ i, i ≤ ls.length → z9z ls i ≤ i * 100 := fun i => by
  induction i with
  | zero => intro _; simp [z9z]
  | succ i ih =>
   intro hi
   rw [z5m (by omega)]
   have := ih (by omega)
   have := hk _ (List.getElem_mem (show i < ls.length by omega))
   omega
 refine H.q1b.view q5d rfl rfl ?_
 repeat' (simp -dsimp -implicitDefEqProofs [*])
 refine q44 (fun i : Nat => [(0, .list t (llP ls) ls.length), (3, .int (z9z ls i : Nat)), (9, .list t (llP ls) ls.length), (10, .int ls.length), (11, .int (i : Nat))]) (fun _ => st) (fun i => i ≤ ls.length) (fun i => ls.length - i) 0 (Nat.zero_le _) (by simp [z9z]) (.refl _) ?_
 intro i hi
 by_cases hil : i < ls.length
 ·have hwi := q46 (n := i) (by omega)
  have g := j33 hil
  have G := q9v g
  have hs := z5m hil
  have h1 := hT i hi
  have h2 := hk _ (List.getElem_mem hil)
  obtain ⟨q, hq⟩ : ∃ q, q = ls[i] := ⟨_, rfl⟩
  rw [← hq] at g hs h2
  simp only [← hq] at G
  obtain ⟨tq, Q⟩ := q
  simp only at g hs h2 G
  have hw : IntKind.i64.wrap ((z9z ls i : Int) + Q.length) = (z9z ls i : Int) + Q.length := q5a (by omega) (by omega)
  have hp : ¬ (z9z ls i : Int) + Q.length < 0 := by omega
  clear hq hk hT
  repeat' (simp -dsimp -implicitDefEqProofs [*])
  exact Next.intro (i + 1) (by omega) (by omega) (by simp [hs]) q5k
 obtain rfl : i = ls.length := by omega
 have hg := fun st => j1i (z9z ls ls.length) (by have := hT ls.length (Nat.le_refl _); omega) st
 repeat' (simp -dsimp -implicitDefEqProofs [*])
 refine q48 (hg _) ?_
 rintro e s ⟨o, ho, hol, rfl, rfl⟩
 rw [q5l]
 clear hg
 repeat' (simp -dsimp -implicitDefEqProofs [-q45, *])
 refine q44 (fun y : Nat × Option (Acc PV) => [(6, q69 y.2), (25, .list t (llP ls) ls.length), (26, .int ls.length), (27, .int (y.1 : Nat))]) (fun y => accS T.int_2 st y.2) (fun y => y.1 ≤ ls.length ∧ accOk (fun l => l) 1 st y.2 ∧ Hid (q5m y.2 = j66 ls y.1)) (fun y => ls.length - y.1) (0, o) ⟨Nat.zero_le _, ho, ⟨hol⟩⟩ (by simp) (.refl _) ?_
 clear hol ho
 clear o
 rintro ⟨i, o⟩ ⟨hi, ho, hol⟩
 replace hi : i ≤ ls.length := hi
 replace ho : accOk (fun l => l) 1 st o := ho
 replace hol : Hid (q5m o = j66 ls i) := hol
 simp only
 by_cases hil : i < ls.length
 case neg =>
  obtain rfl : i = ls.length := by omega
  clear hk hT
  repeat' (simp -dsimp -implicitDefEqProofs [-q45, *])
  exact RetView.accP1 (row := fun l => l) rfl ho (.same ⟨by rw [hol.out, z90], rfl⟩)
 have hwi := q46 (n := i) (by omega)
 have g := j33 hil
 have G := q9v g
 have hs := Hid.mk (j32 hil)
 have hs2 := Hid.mk (z90 ls i)
 have h1 := hT i hi
 have h2 := hk _ (List.getElem_mem hil)
 obtain ⟨q, hq⟩ : ∃ q, q = ls[i] := ⟨_, rfl⟩
 rw [← hq] at g hs h2
 simp only [← hq] at G
 obtain ⟨tq, Q⟩ := q
 simp only at g hs h2 G
 clear hq hk hT
 repeat' (simp -dsimp -implicitDefEqProofs [-q45, *])
 refine q9c (row := fun l => l) (k := 1) (by simp) (by simp) o ho Q rfl rfl (by rw [hol.out, hs2.out]; omega) fun o' ho' hl' => ?_
 have kl' : Hid (q5m o' = j66 ls (i + 1)) := ⟨by rw [hl', hol.out, hs.out]⟩
 clear hl'
 repeat' (simp -dsimp -implicitDefEqProofs [-q45, *])
 exact Next.intro (i + 1, o') ⟨by simp only; omega, ho', kl'⟩ (by simp only; omega) (by simp) q5k
open Go.Pv
set_option maxRecDepth 100000
set_option maxHeartbeats 8000000
def y9y (f : Nat → PV) : List (Bool × List PV) := [(true, [f 0]), (false, [f 1, f 2, f 3, f 4, f 5, f 6, f 7, f 8, f 9]), (true, [f 10, f 11, f 12, f 13, f 14]), (false, [f 15, f 16, f 17, f 18, f 19, f 20, f 21, f 22, f 23])]
theorem z5o (f : Nat → PV) (st : q43) : Rets P F.q1b [.list true [.list true [f 0] 1, .list false [f 1, f 2, f 3, f 4, f 5, f 6, f 7, f 8, f 9] 9, .list true [f 10, f 11, f 12, f 13, f 14] 5, .list false [f 15, f 16, f 17, f 18, f 19, f 20, f 21, f 22, f 23] 9] 4] st (.list false (z9y f 0 24) 24) :=
 z5n true (y9y f) (by simp [y9y]) (by simp [y9y]) st
theorem j34 (f : Nat → PV) (a c : Nat) (st : q43) (ha : q5s st a) (hc : q5s ((a, .arr T.t9int [f 1, f 2, f 3, f 4, f 5, f 6, f 7, f 8, f 9]) :: st) c) :
  PCalls P F.q1b [.list true [.list true [f 0] 1, .own a 0 9 9, .list true [f 10, f 11, f 12, f 13, f 14] 5, .own c 0 9 9] 4] ((c, .arr T.t9int [f 15, f 16, f 17, f 18, f 19, f 20, f 21, f 22, f 23]) :: (a, .arr T.t9int [f 1, f 2, f 3, f 4, f 5, f 6, f 7, f 8, f 9]) :: st) fun e s => e = .ret (.list false (z9y f 0 24) 24) ∧ s = st :=
 PCalls.frz hc (.refl _) (.cons (.list true 4 (.cons (.refl _) (.cons (.refl _) (.cons (.refl _) (.cons (.own T.t9int [f 15, f 16, f 17, f 18, f 19, f 20, f 21, f 22, f 23] 0 9 9 1 rfl (by decide) (by decide)) .nil))))) .nil)
  (PCalls.frz ha (.refl _) (.cons (.list true 4 (.cons (.refl _) (.cons (.own T.t9int [f 1, f 2, f 3, f 4, f 5, f 6, f 7, f 8, f 9] 0 9 9 1 rfl (by decide) (by decide)) (.cons (.refl _) (.cons (.refl _) .nil))))) .nil) (z5o f st))
theorem j35 (f : Nat → PV) (a c : Nat) (st : q43) (hc : q5s st c) (ha : q5s ((c, .arr T.t9int [f 15, f 16, f 17, f 18, f 19, f 20, f 21, f 22, f 23]) :: st) a) :
  PCalls P F.q1b [.list true [.list true [f 0] 1, .own a 0 9 9, .list true [f 10, f 11, f 12, f 13, f 14] 5, .own c 0 9 9] 4] ((a, .arr T.t9int [f 1, f 2, f 3, f 4, f 5, f 6, f 7, f 8, f 9]) :: (c, .arr T.t9int [f 15, f 16, f 17, f 18, f 19, f 20, f 21, f 22, f 23]) :: st) fun e s => e = .ret (.list false (z9y f 0 24) 24) ∧ s = st :=
 PCalls.frz ha (.refl _) (.cons (.list true 4 (.cons (.refl _) (.cons (.own T.t9int [f 1, f 2, f 3, f 4, f 5, f 6, f 7, f 8, f 9] 0 9 9 1 rfl (by decide) (by decide)) (.cons (.refl _) (.cons (.refl _) .nil))))) .nil)
  (PCalls.frz hc (.refl _) (.cons (.list true 4 (.cons (.refl _) (.cons (.refl _) (.cons (.refl _) (.cons (.own T.t9int [f 15, f 16, f 17, f 18, f 19, f 20, f 21, f 22, f 23] 0 9 9 1 rfl (by decide) (by decide)) .nil))))) .nil) (z5o f st))
theorem q9i (q : Nat) (st : q43) : Rets P F.q3n [.ptr q 0] st (.list false (z9y (.ptr q) 0 24) 24) := by
 have ev1 := fun st => z5l q 1 st
 have ev2 := fun st => z5l q 15 st
 have o1 := fun a c st ha hc => j34 (.ptr q) a c st ha hc
 have o2 := fun a c st ha hc => j35 (.ptr q) a c st ha hc
 obtain ⟨R, hR⟩ : ∃ R, R = z9y (.ptr q) 0 24 := ⟨_, rfl⟩
 rw [← hR]
 simp only [← hR] at o1 o2
 clear hR
 simp only [z9y] at ev1 ev2
 refine H.q3n.view q5d rfl rfl ?_
 repeat' (simp -dsimp -implicitDefEqProofs [*])
 refine DrawFork.by (fun _ => True) trivial ?_
 repeat' (first 
  | (with_reducible refine q5w (fun _ => ev1 _) ?_)
  | (with_reducible refine q5w (fun _ => ev2 _) ?_)
  | (simp -dsimp -implicitDefEqProofs [*]))
 clear ev1 ev2
 refine ⟨?_, ?_⟩
 ·repeat' (first 
   | (with_reducible refine Fresh.intro fun b hb => ?_) <;> (try simp -dsimp -implicitDefEqProofs [*] at hb)
   | (simp -dsimp -implicitDefEqProofs [*]))
  refine DrawLate.by (fun _ => True) trivial ?_
  repeat' (simp -dsimp -implicitDefEqProofs [*])
  rename_i a ha
  refine q48 (o1 a b st ha hb) ?_
  clear o1 o2
  rintro e s ⟨rfl, rfl⟩
  rw [q5l]
  repeat' (simp -dsimp -implicitDefEqProofs [*])
  exact .same ⟨rfl, rfl⟩
 ·repeat' (first 
   | (with_reducible refine Fresh.intro fun b hb => ?_) <;> (try simp -dsimp -implicitDefEqProofs [*] at hb)
   | (simp -dsimp -implicitDefEqProofs [*]))
  refine DrawLate.by (fun _ => True) trivial ?_
  repeat' (simp -dsimp -implicitDefEqProofs [*])
  rename_i a ha
  refine q48 (o2 b a st ha hb) ?_
  clear o1 o2
  rintro e s ⟨rfl, rfl⟩
  rw [q5l]
  repeat' (simp -dsimp -implicitDefEqProofs [*])
  exact .same ⟨rfl, rfl⟩
open Go.Pv Go.Pv.Cd
set_option maxRecDepth 100000
set_option maxHeartbeats 4000000
abbrev rdO (L : List (BitVec 8)) : PObj := .arr T.q40 [q5v false L]
def q8c : PV := .iface T.apiErrno (.int 10)
def PanD (P : Program) (g : FuncId) (ps : List PV) (st : q43) (p : PV) (st' : q43) : Prop := PCalls P g ps st fun e s => e = .panic p ∧ s = st'
theorem PanD.xcall {P : Program} {g : FuncId} {ps : List PV} {st st' : q43} {p : PV} (h : PanD P g ps st p st') {Q : PEnd → q43 → Prop} (hk : Q (.panic p) st') : xcall P g ps st Q :=
 PCalls.mono h fun e s ⟨h1, h2⟩ => by subst h1; subst h2; exact hk
theorem k4b (b : Nat) (st : q43) : Rets P F.q00 [.ptr b 0, .bool true] st (.tuple []) := by
 refine H.q00.pure q5d rfl rfl ?_
 repeat' (simp -dsimp -implicitDefEqProofs [*])
theorem k4c (b : Nat) (st : q43) : Panics P F.q00 [.ptr b 0, .bool false] st q8c := by
 refine H.q00.panics q5d rfl rfl ?_
 repeat' (simp -dsimp -implicitDefEqProofs [q8c, *])
theorem j36 (L : List (BitVec 8)) (n : Nat) (h : n ≤ L.length) (b : Nat) (st : q43) (_hb : q5s st b) : Does P F.q0u [.ptr b 0, .int (n : Int)] ((b, rdO L) :: st) (.list true (q5b (L.take n)) n) ((b, rdO (L.drop n)) :: st) := by
 have h1 : (n : Int) ≤ L.length := by omega
 refine H.q0u.view q5d rfl rfl ?_
 repeat' (first 
  | (with_reducible refine Rets.xcall (k4b _ _) ?_)
  | (simp -dsimp -implicitDefEqProofs [*]))
 exact .same ⟨by rw [k65], by rw [k66, ← List.length_drop]⟩
theorem y0y (L : List (BitVec 8)) (n : Nat) (h : ¬ n ≤ L.length) (b : Nat) (st : q43) (hb : q5s st b) : PanD P F.q0u [.ptr b 0, .int (n : Int)] ((b, rdO L) :: st) q8c st := by
 have h1 : ¬ (n : Int) ≤ L.length := by omega
 refine H.q0u.view q5d rfl rfl ?_
 repeat' (first 
  | (with_reducible refine Panics.xcall (k4c _ _) ?_)
  | (simp -dsimp -implicitDefEqProofs [*]))
 exact RetView.drop (st' := st) q5k ⟨rfl, rfl⟩
theorem k3h (c : BitVec 8) (r : List (BitVec 8)) (b : Nat) (st : q43) (hb : q5s st b) : Does P F.q0u [.ptr b 0, .int 1] ((b, rdO (c :: r)) :: st) (.list true [bv c] 1) ((b, rdO r) :: st) :=
 j36 (c :: r) 1 (by simp) b st hb
theorem z91 (b : Nat) (st : q43) (hb : q5s st b) : PanD P F.q0u [.ptr b 0, .int 1] ((b, rdO []) :: st) q8c st :=
 y0y [] 1 (by simp) b st hb
end Go.Proofs.YtmlmoaimjifpgaaGreat
