/- A message, read. -/
import Derived.Test.YtmlmoaimjifpgaaGreatD58E
namespace Go.Proofs.YtmlmoaimjifpgaaGreat
open Go.Pv Go.Pv.Cd
set_option maxRecDepth 100000
set_option maxHeartbeats 8000000
def ReadP (L : List (BitVec 8)) (st : q43) (e : PEnd) (s : q43) : Prop := ∃ (n : Note) (ok : Bool), e = .ret (.tuple [n.pv, .bool ok]) ∧ s = st ∧ match q9b L with
 | some m => ok = true ∧ n = m
 | none => ok = false
theorem ReadP.no {L : List (BitVec 8)} {st : q43} (h : q9b L = none) (n : Note) : ReadP L st (.ret (.tuple [n.pv, .bool false])) st :=
 ⟨n, false, rfl, rfl, by rw [h]⟩
theorem k6e : ∀ l : List Vl, k1o l = l.flatMap q8d
 | [] => rfl
 | v :: l => by rw [k1o, k6e l, List.flatMap_cons]
def j7e : Vl → Int
 | .int _ => 1
 | .text _ => 2
 | .list _ => 3
def j9d : Vl → Int
 | .int n => n
 | _ => 0
theorem j1l (l : List Vl) (i : Nat) (h : i < l.length) : (k1o l)[i * 4]? = some (.int (j7e l[i])) := by
 rw [k6e]
 have := k7n (enc := q8d) (k := 4) k3j l i 0 h (by omega)
 rw [Nat.add_zero] at this
 rw [this]
 cases l[i] <;> rfl
theorem j4d (l : List Vl) (i : Nat) (h : i < l.length) : (k1o l)[i * 4 + 1]? = some (.int (j9d l[i])) := by
 rw [k6e]
 have := k7n (enc := q8d) (k := 4) k3j l i 1 h (by omega)
 rw [this]
 cases l[i] <;> rfl
structure RdI (l : List Vl) (i : Nat) (X : List Int) : Prop where
 le : i ≤ 24
 len : X.length = 24
 is : k1m l = (k1m (l.drop i)).map (X.take i ++ ·)
theorem RdI.zero (l : List Vl) : RdI l 0 (List.replicate 24 0) := ⟨by omega, by simp, by
 rw [List.drop_zero]
 cases k1m l with
 | none => rfl
 | some k => rfl⟩
theorem RdI.bad {l : List Vl} {i : Nat} {X : List Int} (h : RdI l i X) (hi : i < l.length) (hk : ¬ j7e l[i] = 1) : k1m l = none := by
 rw [h.is, ← List.getElem_cons_drop hi]
 cases e : l[i] with
 | int n => rw [e] at hk; exact absurd rfl hk
 | text s => rfl
 | list s => rfl
theorem RdI.next {l : List Vl} {i : Nat} {X : List Int} (h : RdI l i X) (hi : i < l.length) (h24 : i < 24) (hk : j7e l[i] = 1) : RdI l (i + 1) (X.set i (j9d l[i])) := by
 refine ⟨by omega, by rw [List.length_set, h.len], ?_⟩
 rw [h.is, ← List.getElem_cons_drop hi]
 have hx : i < X.length := by rw [h.len]; exact h24
 have e2 : (X.set i (j9d l[i])).take (i + 1) = X.take i ++ [j9d l[i]] := by
  rw [List.take_succ_eq_append_getElem (by rw [List.length_set]; exact hx), List.getElem_set_self, List.take_set_of_le (Nat.le_refl _)]
 rw [e2]
 cases e : l[i] with
 | int n =>
  rw [k1m]
  cases k1m (l.drop (i + 1)) with
  | none => rfl
  | some k => simp [j9d]
 | text s => rw [e] at hk; exact absurd hk (show ¬ (2 : Int) = 1 by decide)
 | list s => rw [e] at hk; exact absurd hk (show ¬ (3 : Int) = 1 by decide)
theorem RdI.done {l : List Vl} {X : List Int} (h : RdI l 24 X) (hl : l.length = 24) : k1m l = some X := by
 rw [h.is, List.drop_eq_nil_of_le (by omega), List.take_of_length_le (by rw [h.len]; omega)]
 simp [k1m]
def z8g (X : List Int) : List PV := X.map fun x => .int x
theorem z1e {X : List Int} (h : X.length = 24) : z8g X = (q9u X).enc := by
 rw [Note.enc_ints, k82 h]
 rfl
theorem z5q (L : List (BitVec 8)) (hL : L.length ≤ 100000) (st : q43) : PCalls P F.q13 [q5v false L] st (ReadP L st) := by
 have dc := fun st => z79 L hL st
 unfold j9b j9c at dc
 cases hd : Go.Pv.Cd.decode L with
 | none =>
  rw [hd] at dc
  simp only at dc
  have e := Hid.mk (ReadP.no (L := L) (st := st) (by unfold q9b; rw [hd]) (q9u []))
  clear hd
  refine H.q13.view q5d rfl rfl ?_
  repeat' (first 
   | (with_reducible refine Fresh.intro fun b hb => ?_) <;> (try simp -dsimp -implicitDefEqProofs [*] at hb)
   | (with_reducible refine Rets.xcall (dc _) ?_)
   | (with_reducible refine Rets.xcall (q9i _ _) ?_)
   | (simp -dsimp -implicitDefEqProofs [*]))
  exact RetView.drop (st' := st) q5k e.out
 | some v =>
  rw [hd] at dc
  simp only at dc
  cases v with
  | int n =>
   have e := Hid.mk (ReadP.no (L := L) (st := st) (by unfold q9b; rw [hd]) (q9u []))
   clear hd
   simp only [q8d] at dc
   refine H.q13.view q5d rfl rfl ?_
   repeat' (first 
    | (with_reducible refine Fresh.intro fun b hb => ?_) <;> (try simp -dsimp -implicitDefEqProofs [*] at hb)
    | (with_reducible refine Rets.xcall (dc _) ?_)
    | (with_reducible refine Rets.xcall (q9i _ _) ?_)
    | (simp -dsimp -implicitDefEqProofs [*]))
   exact RetView.drop (st' := st) q5k e.out
  | text s =>
   have e := Hid.mk (ReadP.no (L := L) (st := st) (by unfold q9b; rw [hd]) (q9u []))
   clear hd
   simp only [q8d] at dc
   refine H.q13.view q5d rfl rfl ?_
   repeat' (first 
    | (with_reducible refine Fresh.intro fun b hb => ?_) <;> (try simp -dsimp -implicitDefEqProofs [*] at hb)
    | (with_reducible refine Rets.xcall (dc _) ?_)
    | (with_reducible refine Rets.xcall (q9i _ _) ?_)
    | (simp -dsimp -implicitDefEqProofs [*]))
   exact RetView.drop (st' := st) q5k e.out
  | list l =>
   simp only [q8d] at dc
   by_cases hl : l.length = 24
   case neg =>
    have e := Hid.mk (ReadP.no (L := L) (st := st) (by
     unfold q9b
     rw [hd]
     simp only
     cases e : k1m l with
     | none => rfl
     | some k =>
      simp only
      rw [if_neg]
      rintro ⟨h1, -⟩
      have := congrArg List.length (k84 e)
      rw [List.length_map] at this
      omega) (q9u []))
    have hl2 : ¬ (l.length : Int) = 24 := by omega
    clear hd
    refine H.q13.view q5d rfl rfl ?_
    repeat' (first 
     | (with_reducible refine Fresh.intro fun b hb => ?_) <;> (try simp -dsimp -implicitDefEqProofs [*] at hb)
     | (with_reducible refine Rets.xcall (dc _) ?_)
     | (with_reducible refine Rets.xcall (q9i _ _) ?_)
     | (simp -dsimp -implicitDefEqProofs [*]))
    exact RetView.drop (st' := st) q5k e.out
   have e0 := Hid.mk (RdI.zero l)
   replace hd := Hid.mk hd
   refine H.q13.view q5d rfl rfl ?_
   repeat' (first 
    | (with_reducible refine Fresh.intro fun b hb => ?_) <;> (try simp -dsimp -implicitDefEqProofs [*] at hb)
    | (with_reducible refine Rets.xcall (dc _) ?_)
    | (with_reducible refine Rets.xcall (q9i _ _) ?_)
    | (simp -dsimp -implicitDefEqProofs [*]))
   rename_i q hq
   clear dc
   refine q44 (fun y : Nat × List Int => [(31, .list false (z9y (.ptr q) 0 24) 24), (32, .int 24), (33, .int y.1), (4, .ptr b 0), (3, .bool false), (2, .ptr q 0)]) (fun y => (b, .arr T.apiValue [.int 3, .int 0, k0w, .list false (k1o l) 24]) :: (q, .arr T.apiNote (z8g y.2)) :: st) (fun y => Hid (RdI l y.1 y.2)) (fun y => 24 - y.1) (0, List.replicate 24 0) e0 (by simp) (.refl _) ?_
   clear e0
   rintro ⟨i, X⟩ hI
   replace hI : Hid (RdI l i X) := hI
   simp only
   have hXl : (z8g X).length = 24 := by unfold z8g; rw [List.length_map, hI.out.len]
   have hXs := sub_all hXl
   by_cases hil : i < 24
   case neg =>
    obtain rfl : i = 24 := by have := hI.out.le; omega
    have hk := hI.out.done hl
    have hX := hI.out.len
    have hre := z1e hX
    have fm := fun st => k1p (q9u X) st
    have e : Hid (ReadP L st (.ret (.tuple [(q9u X).pv, .bool (q5c (q9u X))])) st) := ⟨q9u X, _, rfl, rfl, by
     unfold q9b
     rw [hd.out]
     simp only
     rw [hk]
     simp only
     by_cases hf : q5c (q9u X) = true
     ·rw [if_pos ⟨hX, hf⟩]
      exact ⟨hf, rfl⟩
     ·rw [if_neg fun h => hf h.2]
      simpa using hf⟩
    rw [hre] at hXl hXs ⊢
    clear hre hk hd hI
    repeat' (first 
     | (with_reducible refine Rets.xcall (fm _) ?_)
     | (with_reducible refine DrawLate.intro [] ?_)
     | (simp -dsimp -implicitDefEqProofs [*]))
    exact RetView.drop (st' := st) q5k e.out
   have hwi := q46 (n := i) (by omega)
   have hil2 : i < l.length := by omega
   have p1 := z23 (.ptr q) 24 0 i hil
   rw [Nat.zero_add] at p1
   have P1 := q9v p1
   have hpl := z24 (.ptr q) 24 0
   have k1 := j1l l i hil2
   have K1 := q9v k1
   have n1 := j4d l i hil2
   have N1 := q9v n1
   have hrl := k87 l
   by_cases hkd : j7e l[i] = 1
   case neg =>
    have e := Hid.mk (ReadP.no (L := L) (st := st) (by unfold q9b; rw [hd.out]; simp only; rw [hI.out.bad hil2 hkd]) (q9u X))
    have hre := z1e hI.out.len
    rw [hre] at hXl hXs ⊢
    clear hre hd hI
    repeat' (first 
     | (with_reducible refine And.intro (fun h => ?_) (fun h => ?_)) <;> (try (exfalso; omega))
     | ((with_reducible refine q5i ?_ fun hk => ?_); omega)
     | (simp -dsimp -implicitDefEqProofs [*]))
    exact RetView.drop (st' := st) q5k e.out
   have hn := Hid.mk (hI.out.next hil2 hil hkd)
   have hset : (z8g X).set i (.int (j9d l[i])) = z8g (X.set i (j9d l[i])) := by unfold z8g; rw [List.map_set]
   rw [hkd] at k1
   simp only [hkd] at K1
   obtain ⟨x, hx⟩ : ∃ x, x = j9d l[i] := ⟨_, rfl⟩
   rw [← hx] at n1 hset hn
   simp only [← hx] at N1
   clear hx hkd hd hI
   repeat' (first 
    | (with_reducible refine And.intro (fun h => ?_) (fun h => ?_)) <;> (try (exfalso; omega))
    | ((with_reducible refine q5i ?_ fun hk => ?_); omega)
    | (simp -dsimp -implicitDefEqProofs [*]))
   exact Next.intro (i + 1, X.set i x) hn (by simp only; omega) (by simp) q5k
open Go.Pv
set_option maxRecDepth 100000
set_option maxHeartbeats 8000000
structure Pk where
 fr : Int
 to : Int
 d : List (BitVec 8)
 deriving DecidableEq
instance : Inhabited Pk := ⟨⟨0, 0, []⟩⟩
def Pk.enc (x : Pk) : List PV := [.int x.fr, .int x.to, q5v false x.d]
abbrev Pk.pv (x : Pk) : PV := .agg x.enc
section
variable (x : Pk) (b k : Nat) (o : PObj)
@[simp] theorem Pk.len : x.enc.length = 3 := rfl
@[simp] theorem Pk.sub_all : sub x.enc 0 3 = some x.enc := rfl
@[simp] theorem Pk.get0 : x.enc[0]? = some (.int x.fr) := rfl
@[simp] theorem Pk.get1 : x.enc[1]? = some (.int x.to) := rfl
@[simp] theorem Pk.get2 : x.enc[2]? = some (q5v false x.d) := rfl
@[simp] theorem Pk.getE0 (h : 0 < x.enc.length) : x.enc[0]'h = .int x.fr := rfl
@[simp] theorem Pk.getE1 (h : 1 < x.enc.length) : x.enc[1]'h = .int x.to := rfl
@[simp] theorem Pk.getE2 (h : 2 < x.enc.length) : x.enc[2]'h = q5v false x.d := rfl
end
def Pk.row (l : List Pk) : List PV := l.flatMap Pk.enc
abbrev Pk.lst (t : Bool) (l : List Pk) : PV := .list t (Pk.row l) l.length
@[simp] theorem Pk.row_len (l : List Pk) : (Pk.row l).length = l.length * 3 := q53 Pk.enc 3 Pk.len l
@[simp] theorem Pk.row_nil : Pk.row [] = [] := rfl
@[simp] theorem Pk.row_cons (x : Pk) (l : List Pk) : Pk.row (x :: l) = x.enc ++ Pk.row l := rfl
theorem Pk.row_append (l m : List Pk) : Pk.row (l ++ m) = Pk.row l ++ Pk.row m := by simp [Pk.row]
@[simp] theorem Pk.row_sub (l : List Pk) (i : Nat) (h : i < l.length) : sub (Pk.row l) (i * 3) 3 = some (l[i]).enc := q78 Pk.enc 3 Pk.len l i h
abbrev k6f (q : List Pk) : PV := .agg [Pk.lst false q, .list false [] 0]
def j7f (a b : Int) : Bool := decide (0 ≤ a) && decide (a < b) && decide (b < 24)
def pkB (p : Pk) : Bool := j7f (min p.fr p.to) (max p.fr p.to) && decide (p.d.length ≤ 1048576)
theorem k5h (a b : Int) (st : q43) : Rets P F.q3c [.int a, .int b] st (.agg [.int (min a b), .int (max a b)]) := by
 have e1 : (if b < a then b else a) = min a b := by rw [Int.min_def]; split <;> split <;> omega
 have e2 : (if a < b then b else a) = max a b := by rw [Int.max_def]; split <;> split <;> omega
 refine H.q3c.view q5d rfl rfl ?_
 repeat' (first 
  | (with_reducible refine Fresh.intro fun b hb => ?_) <;> (try simp -dsimp -implicitDefEqProofs [*] at hb)
  | (simp -dsimp -implicitDefEqProofs [*]))
 exact RetView.drop (st' := st) q5k ⟨rfl, rfl⟩
theorem z8h (a b : Int) (st : q43) : Rets P F.q2o [.agg [.int a, .int b]] st (.bool (j7f a b)) := by
 refine H.q2o.pure q5d rfl rfl ?_
 repeat' (first 
  | (with_reducible refine Fresh.intro fun b hb => ?_) <;> (try simp -dsimp -implicitDefEqProofs [*] at hb)
  | (with_reducible refine And.intro (fun h => ?_) (fun h => ?_)) <;> (try (exfalso; omega))
  | (simp -dsimp -implicitDefEqProofs [j7f, *]))
 all_goals (intros; omega)
theorem k9a (p : Pk) (st : q43) : Rets P F.q3t [p.pv] st (.bool (pkB p)) := by
 refine H.q3t.pure q5d rfl rfl ?_
 repeat' (first 
  | (with_reducible refine Fresh.intro fun b hb => ?_) <;> (try simp -dsimp -implicitDefEqProofs [*] at hb)
  | (with_reducible refine Rets.xcall (k5h _ _ _) ?_)
  | (with_reducible refine Rets.xcall (z8h _ _ _) ?_)
  | (with_reducible refine And.intro (fun h => ?_) (fun h => ?_)) <;> (try (exfalso; omega))
  | (simp -dsimp -implicitDefEqProofs [pkB, *]))
 all_goals exact ⟨fun h => by omega, fun h => by omega⟩
theorem z8i (p : Pk) (st : q43) : Rets P F.q2k [p.pv] st (.bool (!pkB p)) := by
 have c := fun st => k9a p st
 refine H.q2k.pure q5d rfl rfl ?_
 repeat' (first 
  | (with_reducible refine Fresh.intro fun b hb => ?_) <;> (try simp -dsimp -implicitDefEqProofs [*] at hb)
  | (with_reducible refine Rets.xcall (c _) ?_)
  | (simp -dsimp -implicitDefEqProofs [*]))
theorem j1m (q : List Pk) (hl : q.length ≤ 100000) (hq : ∀ p ∈ q, pkB p = true) (st : q43) : Rets P F.q0v [Pk.lst false q, .func (.func F.q2k) [] []] st (.int (-1)) := by
 refine H.q0v.pure q5d rfl rfl ?_
 repeat' (simp -dsimp -implicitDefEqProofs [*])
 refine q44 (fun i : Nat => [(8, .int i), (7, .int q.length), (4, .int 0), (0, Pk.lst false q), (1, .func (.func F.q2k) [] [])]) (fun _ => st) (fun i => i ≤ q.length) (fun i => q.length - i) 0 (Nat.zero_le _) (by simp) (.refl _) ?_
 intro i hi
 by_cases hil : i < q.length
 ·have hwi := q46 (n := i) (by omega)
  have c := fun st => z8i q[i] st
  rw [hq _ (List.getElem_mem hil)] at c
  have hs := Pk.row_sub q i hil
  have hr := Pk.row_len q
  clear hq
  repeat' (first 
   | (with_reducible refine Rets.xcall (c _) ?_)
   | (simp -dsimp -implicitDefEqProofs [*]))
  exact Next.intro (i + 1) (by omega) (by omega) (by simp) q5k
 ·obtain rfl : i = q.length := by omega
  clear hq
  repeat' (simp -dsimp -implicitDefEqProofs [*])
theorem z26 (q : List Pk) (hl : q.length ≤ 100000) (hq : ∀ p ∈ q, pkB p = true) (st : q43) : Rets P F.q0p [Pk.lst false q, .func (.func F.q2k) [] []] st (.bool false) := by
 have c := fun st => j1m q hl hq st
 clear hq
 refine H.q0p.pure q5d rfl rfl ?_
 repeat' (first 
  | (with_reducible refine Rets.xcall (c _) ?_)
  | (simp -dsimp -implicitDefEqProofs [*]))
theorem k1q (q : List Pk) (hl : q.length ≤ 4096) (hq : ∀ p ∈ q, pkB p = true) (st : q43) : Rets P F.q3i [k6f q] st (.int 0) := by
 have c := fun st => z26 q (by omega) hq st
 have h1 : ¬ (4096 : Int) < q.length := by omega
 clear hq
 refine H.q3i.pure q5d rfl rfl ?_
 repeat' (first 
  | (with_reducible refine Fresh.intro fun b hb => ?_) <;> (try simp -dsimp -implicitDefEqProofs [*] at hb)
  | (with_reducible refine Rets.xcall (c _) ?_)
  | (simp -dsimp -implicitDefEqProofs [*]))
 refine q44 (fun _ : Nat => [(17, .int 0), (16, .int 0)]) (fun _ => st) (fun _ => True) (fun i => i) 0 trivial (by simp) q5k ?_
 rintro i -
 repeat' (simp -dsimp -implicitDefEqProofs [*])
open Go.Pv
set_option maxRecDepth 100000
set_option maxHeartbeats 8000000
theorem PLeV.tuple2 {p q p' q' : PV} (h1 : PLe p p') (h2 : PLe q q') : PLe (.tuple [p, q]) (.tuple [p', q']) := fun I v h => by
 simp only [vrep] at h ⊢
 obtain ⟨vs, h3, h4⟩ := h
 match vs, h4 with
 | [a, b], h4 =>
  simp only [vreps] at h4
  exact ⟨[a, b], h3, by simp only [vreps]; exact ⟨h1 I _ h4.1, h2 I _ h4.2.1, trivial⟩⟩
theorem k7s : PLe (.agg [.nil, .nil]) (k6f []) := PLeV.aggs ⟨.nil1, .nil1, trivial⟩
theorem j9e (q m : List Pk) (b cap n : Nat) (hn : (q ++ m).length = n) (h1 : n ≤ cap) (h2 : cap ≤ 9223372036854775807) (C : List PV) :
  Frz b (.arr T.apiPacket (Pk.row (q ++ m) ++ C)) (.own b 0 n cap) (.list false (Pk.row (q ++ m)) n) := by
 have := Frz.own (b := b) (o := .arr T.apiPacket (Pk.row (q ++ m) ++ C)) T.apiPacket _ 0 n cap 3 rfl h1 h2
 rwa [List.drop_zero, List.take_left' (by rw [Pk.row_len, hn])] at this
theorem Pk.row_drop (l : List Pk) (i : Nat) : (Pk.row l).drop (i * 3) = Pk.row (l.drop i) := k47 Pk.enc 3 Pk.len l i
theorem Pk.row_take (l : List Pk) (i : Nat) : (Pk.row l).take (i * 3) = Pk.row (l.take i) := z4l Pk.enc 3 Pk.len l i
theorem z5r (q : List Pk) (hl : q.length < 4096) (hq : ∀ p ∈ q, pkB p = true) (p : Pk) (hp : pkB p = true) (st : q43) : Rets P F.q34 [k6f q, p.pv] st (.tuple [k6f (q ++ [p]), .int 0]) := by
 have c := fun st => k1q q (by omega) hq st
 have k := fun st => k9a p st
 rw [hp] at k
 clear hq hp
 refine H.q34.view q5d rfl rfl ?_
 repeat' (first 
  | (with_reducible refine Fresh.intro fun b hb => ?_) <;> (try simp -dsimp -implicitDefEqProofs [*] at hb)
  | (with_reducible refine Rets.xcall (c _) ?_)
  | (with_reducible refine Rets.xcall (k _) ?_)
  | ((with_reducible refine Grow.intro ?_ fun b cap hb hc1 hc2 => ?_); omega) <;> (try simp -dsimp -implicitDefEqProofs [*] at hb)
  | (with_reducible refine DrawLate.intro [] ?_)
  | (with_reducible refine q51 ?_ ?_)
  | (with_reducible exact Cls.self _ _)
  | (with_reducible refine q57 ?_ ?_)
  | (with_reducible refine And.intro (fun h => ?_) (fun h => ?_)) <;> (try (exfalso; omega))
  | (simp -dsimp -implicitDefEqProofs [*]))
 have hfr := j9e q [p] b cap (q.length + 1) (by simp) hc1 hc2 (List.replicate ((cap - (q.length + 1)) * 3) PV.any)
 have e : Pk.row (q ++ [p]) ++ List.replicate ((cap - (q.length + 1)) * 3) PV.any = List.take (q.length * 3) (Pk.row q) ++ (p.enc ++ List.replicate ((cap - (q.length + 1)) * 3) PV.any) := by
  rw [List.take_of_length_le (by simp), Pk.row_append]
  simp
 rw [e] at hfr
 refine RetView.freeze (.tuple [.agg [.list false (Pk.row (q ++ [p])) (q.length + 1), .list false [] 0], .int 0]) (by simp [*]) (.tuple (.cons (.agg (.cons hfr (.cons (.refl _) .nil))) (.cons (.refl _) .nil))) ?_
 exact RetView.drop (st' := st) q5k ⟨by rw [show q.length + 1 = (q ++ [p]).length by simp], rfl⟩
theorem z8j (q : List Pk) (hl : q.length ≤ 4096) (hq : ∀ p ∈ q, pkB p = true) (i : Nat) (hi : i < q.length) (st : q43) : Rets P F.q3v [k6f q, .int i] st (.tuple [q[i].pv, .int 0]) := by
 have c := fun st => k1q q hl hq st
 have hs := Pk.row_sub q i hi
 have hr := Pk.row_len q
 clear hq
 generalize q[i] = p at *
 refine H.q3v.view q5d rfl rfl ?_
 repeat' (first 
  | (with_reducible refine Fresh.intro fun b hb => ?_) <;> (try simp -dsimp -implicitDefEqProofs [*] at hb)
  | (with_reducible refine Rets.xcall (c _) ?_)
  | (with_reducible refine And.intro (fun h => ?_) ?_) <;> (try (exfalso; omega))
  | (simp -dsimp -implicitDefEqProofs [*]))
 exact RetView.drop (st' := st) q5k ⟨rfl, rfl⟩
theorem y02 (q : List Pk) (hl : q.length ≤ 4096) (hq : ∀ p ∈ q, pkB p = true) (i : Int) (hi : ¬ (0 ≤ i ∧ i < q.length)) (st : q43) : Rets P F.q3v [k6f q, .int i] st (.tuple [(⟨0, 0, []⟩ : Pk).pv, .int 1]) := by
 have c := fun st => k1q q hl hq st
 clear hq
 refine H.q3v.view q5d rfl rfl ?_
 repeat' (first 
  | (with_reducible refine Fresh.intro fun b hb => ?_) <;> (try simp -dsimp -implicitDefEqProofs [*] at hb)
  | (with_reducible refine Rets.xcall (c _) ?_)
  | (with_reducible refine And.intro (fun h => ?_) (fun h => ?_)) <;> (try (exfalso; omega))
  | (simp -dsimp -implicitDefEqProofs [*]))
 all_goals exact RetView.sees (SeesV.le (q := .tuple [(⟨0, 0, []⟩ : Pk).pv, .int 1]) (PLeV.tuple2 (PLeV.aggs ⟨.refl _, .refl _, .nil1, trivial⟩) (.refl _))) (RetView.drop (st' := st) q5k ⟨rfl, rfl⟩)
theorem k69 (q : List Pk) (hl : q.length ≤ 4096) (i : Nat) (hi : i < q.length) (st : q43) : Rets P F.q3d [k6f q, .int i] st (k6f (q.eraseIdx i)) := by
 have hwi : IntKind.i64.wrap ((i : Int) + 1) = ((i + 1 : Nat) : Int) := q46 (n := i) (by omega)
 have hr := Pk.row_len q
 have hx : q.length * 3 - (i + 1) * 3 = (q.length - (i + 1)) * 3 := by omega
 refine H.q3d.view q5d rfl rfl ?_
 have ee := List.eraseIdx_eq_take_drop_succ (l := q) (i := i)
 repeat' (first 
  | (with_reducible refine Fresh.intro fun b hb => ?_) <;> (try simp -dsimp -implicitDefEqProofs [*] at hb)
  | ((with_reducible refine Grow.intro ?_ fun b cap hb hc1 hc2 => ?_); omega) <;> (try simp -dsimp -implicitDefEqProofs [*] at hb)
  | (with_reducible refine DrawLate.intro [] ?_)
  | (with_reducible refine q51 ?_ ?_)
  | (with_reducible exact Cls.self _ _)
  | (with_reducible refine q57 ?_ ?_)
  | (with_reducible refine And.intro (fun h => ?_) (fun h => ?_)) <;> (try (exfalso; omega))
  | ((with_reducible refine q5i ?_ fun hk => ?_); omega)
  | (simp -dsimp -implicitDefEqProofs [*]))
 ·rename_i b0 hb0
  have e1 : q.eraseIdx i = q.take i := by rw [ee, List.drop_eq_nil_of_le (by omega), List.append_nil]
  have e2 : (q.take i).length = i := by rw [List.length_take]; omega
  refine RetView.sees (SeesV.le (q := .agg [.list false (List.take (i * 3) (Pk.row q)) i, .list false [] 0]) (PLeV.aggs ⟨.loose, .refl _, trivial⟩)) (RetView.drop (st' := st) q5k ⟨?_, rfl⟩)
  rw [← ee, e1, Pk.row_take]
  show _ = PEnd.ret (.agg [.list false (Pk.row (q.take i)) (q.take i).length, .list false [] 0])
  rw [e2]
 ·have hl2 : (q.take i ++ q.drop (i + 1)).length = i + (q.length - (i + 1)) := by rw [List.length_append, List.length_take, List.length_drop]; omega
  have hfr := j9e (q.take i) (q.drop (i + 1)) b cap (i + (q.length - (i + 1))) hl2 hc1 hc2 (List.replicate ((cap - (i + (q.length - (i + 1)))) * 3) PV.any)
  have e : Pk.row (q.take i ++ q.drop (i + 1)) ++ List.replicate ((cap - (i + (q.length - (i + 1)))) * 3) PV.any = List.take (i * 3) (Pk.row q) ++ (List.drop ((i + 1) * 3) (Pk.row q) ++ List.replicate ((cap - (i + (q.length - (i + 1)))) * 3) PV.any) := by
   rw [Pk.row_take, Pk.row_drop, Pk.row_append, List.append_assoc]
  rw [e] at hfr
  refine RetView.freeze (.agg [.list false (Pk.row (q.take i ++ q.drop (i + 1))) (i + (q.length - (i + 1))), .list false [] 0]) (by simp [*]) (.agg (.cons hfr (.cons (.refl _) .nil))) ?_
  exact RetView.drop (st' := st) q5k ⟨by rw [← hl2], rfl⟩
open Go.Pv
set_option maxRecDepth 100000
set_option maxHeartbeats 8000000
theorem PLeV.tuple3 {p q r p' q' r' : PV} (h1 : PLe p p') (h2 : PLe q q') (h3 : PLe r r') : PLe (.tuple [p, q, r]) (.tuple [p', q', r']) := fun I v h => by
 simp only [vrep] at h ⊢
 obtain ⟨vs, h4, h5⟩ := h
 match vs, h5 with
 | [a, b, c], h5 =>
  simp only [vreps] at h5
  exact ⟨[a, b, c], h4, by simp only [vreps]; exact ⟨h1 I _ h5.1, h2 I _ h5.2.1, h3 I _ h5.2.2.1, trivial⟩⟩
theorem z8k (a b : Int) (st : q43) : Rets P F.q15 [.list false [] 0, .agg [.int a, .int b]] st (.int (-1)) := by
 refine H.q15.pure q5d rfl rfl ?_
 repeat' (first 
  | (with_reducible refine Fresh.intro fun b hb => ?_) <;> (try simp -dsimp -implicitDefEqProofs [*] at hb)
  | (simp -dsimp -implicitDefEqProofs [*]))
 refine q44 (fun _ : Nat => [(8, .int 0), (7, .int 0)]) (fun _ => st) (fun _ => True) (fun i => i) 0 trivial (by simp) q5k ?_
 rintro i -
 repeat' (simp -dsimp -implicitDefEqProofs [*])
theorem j4e (a b : Int) (st : q43) : Rets P F.q1t [.list false [] 0, .agg [.int a, .int b]] st (.bool false) := by
 refine H.q1t.pure q5d rfl rfl ?_
 repeat' (first 
  | (with_reducible refine Fresh.intro fun b hb => ?_) <;> (try simp -dsimp -implicitDefEqProofs [*] at hb)
  | (with_reducible refine Rets.xcall (z8k _ _ _) ?_)
  | (simp -dsimp -implicitDefEqProofs [*]))
theorem j1n (q : List Pk) (hl : q.length ≤ 4096) (hq : ∀ p ∈ q, pkB p = true) (i : Nat) (hi : i < q.length) (st : q43) : Rets P F.q21 [k6f q, .int i] st (.tuple [q[i].pv, k6f (q.eraseIdx i), .int 0]) := by
 have a := fun st => z8j q hl hq i hi st
 have w := fun st => k69 q hl i hi st
 clear hq
 generalize q[i] = p at *
 generalize q.eraseIdx i = q2 at *
 refine H.q21.view q5d rfl rfl ?_
 repeat' (first 
  | (with_reducible refine Fresh.intro fun b hb => ?_) <;> (try simp -dsimp -implicitDefEqProofs [*] at hb)
  | (with_reducible refine Rets.xcall (a _) ?_)
  | (with_reducible refine Rets.xcall (k5h _ _ _) ?_)
  | (with_reducible refine Rets.xcall (j4e _ _ _) ?_)
  | (with_reducible refine Rets.xcall (w _) ?_)
  | (with_reducible refine DrawLate.intro [] ?_)
  | (simp -dsimp -implicitDefEqProofs [*]))
 exact RetView.drop (st' := st) q5k ⟨rfl, rfl⟩
theorem j1o (q : List Pk) (hl : q.length ≤ 4096) (hq : ∀ p ∈ q, pkB p = true) (i : Int) (hi : ¬ (0 ≤ i ∧ i < q.length)) (st : q43) : Rets P F.q21 [k6f q, .int i] st (.tuple [(⟨0, 0, []⟩ : Pk).pv, k6f [], .int 1]) := by
 have a := fun st => y02 q hl hq i hi st
 clear hq
 refine H.q21.view q5d rfl rfl ?_
 repeat' (first 
  | (with_reducible refine Fresh.intro fun b hb => ?_) <;> (try simp -dsimp -implicitDefEqProofs [*] at hb)
  | (with_reducible refine Rets.xcall (a _) ?_)
  | (with_reducible refine DrawLate.intro [] ?_)
  | (simp -dsimp -implicitDefEqProofs [*]))
 exact RetView.sees (SeesV.le (q := .tuple [(⟨0, 0, []⟩ : Pk).pv, k6f [], .int 1]) (PLeV.tuple3 (.refl _) k7s (.refl _))) (RetView.drop (st' := st) q5k ⟨rfl, rfl⟩)
theorem y03 (q : List Pk) (hl : q.length ≤ 4096) (hq : ∀ p ∈ q, pkB p = true) (i : Nat) (hi : i < q.length) (st : q43) : Rets P F.q3w [k6f q, .int i] st (.tuple [k6f (q.eraseIdx i), .int 0]) := by
 have a := fun st => z8j q hl hq i hi st
 have w := fun st => k69 q hl i hi st
 clear hq
 generalize q[i] = p at *
 generalize q.eraseIdx i = q2 at *
 refine H.q3w.view q5d rfl rfl ?_
 repeat' (first 
  | (with_reducible refine Fresh.intro fun b hb => ?_) <;> (try simp -dsimp -implicitDefEqProofs [*] at hb)
  | (with_reducible refine Rets.xcall (a _) ?_)
  | (with_reducible refine Rets.xcall (w _) ?_)
  | (simp -dsimp -implicitDefEqProofs [*]))
 exact RetView.drop (st' := st) q5k ⟨rfl, rfl⟩
theorem y04 (q : List Pk) (hl : q.length ≤ 4096) (hq : ∀ p ∈ q, pkB p = true) (i : Int) (hi : ¬ (0 ≤ i ∧ i < q.length)) (st : q43) : Rets P F.q3w [k6f q, .int i] st (.tuple [k6f [], .int 1]) := by
 have a := fun st => y02 q hl hq i hi st
 clear hq
 refine H.q3w.view q5d rfl rfl ?_
 repeat' (first 
  | (with_reducible refine Fresh.intro fun b hb => ?_) <;> (try simp -dsimp -implicitDefEqProofs [*] at hb)
  | (with_reducible refine Rets.xcall (a _) ?_)
  | (simp -dsimp -implicitDefEqProofs [*]))
 exact RetView.sees (SeesV.le (q := .tuple [k6f [], .int 1]) (PLeV.tuple2 k7s (.refl _))) (RetView.drop (st' := st) q5k ⟨rfl, rfl⟩)
theorem j4f (q : List Pk) (hl : q.length < 4096) (hq : ∀ p ∈ q, pkB p = true) (i : Nat) (hi : i < q.length) (st : q43) : Rets P F.q24 [k6f q, .int i] st (.tuple [k6f (q ++ [q[i]]), .int 0]) := by
 have a := fun st => z8j q (by omega) hq i hi st
 have w := fun st => z5r q hl hq q[i] (hq _ (List.getElem_mem hi)) st
 clear hq
 generalize q[i] = p at *
 generalize q ++ [p] = q2 at *
 refine H.q24.view q5d rfl rfl ?_
 repeat' (first 
  | (with_reducible refine Fresh.intro fun b hb => ?_) <;> (try simp -dsimp -implicitDefEqProofs [*] at hb)
  | (with_reducible refine Rets.xcall (a _) ?_)
  | (with_reducible refine Rets.xcall (w _) ?_)
  | (simp -dsimp -implicitDefEqProofs [*]))
 exact RetView.drop (st' := st) q5k ⟨rfl, rfl⟩
theorem j4g (q : List Pk) (hl : q.length ≤ 4096) (hq : ∀ p ∈ q, pkB p = true) (i : Int) (hi : ¬ (0 ≤ i ∧ i < q.length)) (st : q43) : Rets P F.q24 [k6f q, .int i] st (.tuple [k6f [], .int 1]) := by
 have a := fun st => y02 q hl hq i hi st
 clear hq
 refine H.q24.view q5d rfl rfl ?_
 repeat' (first 
  | (with_reducible refine Fresh.intro fun b hb => ?_) <;> (try simp -dsimp -implicitDefEqProofs [*] at hb)
  | (with_reducible refine Rets.xcall (a _) ?_)
  | (simp -dsimp -implicitDefEqProofs [*]))
 exact RetView.sees (SeesV.le (q := .tuple [k6f [], .int 1]) (PLeV.tuple2 k7s (.refl _))) (RetView.drop (st' := st) q5k ⟨rfl, rfl⟩)
open Go.Pv
set_option maxRecDepth 100000
set_option maxHeartbeats 8000000
abbrev okN (n : Note) : Prop := q5c n = true
theorem k5i {l : List Note} {i : Nat} (hi : i < l.length) (h : Rise q55 okN (l.take i)) (ho : okN l[i]) (hc : 0 < i → ∀ h : i - 1 < l.length, q55 l[i - 1] l[i] < 0) : Rise q55 okN (l.take (i + 1)) := by
 rw [List.take_succ_eq_append_getElem hi]
 refine ⟨fun x hx => ?_, List.pairwise_append.2 ⟨h.2, List.pairwise_singleton .., fun a ha b hb => ?_⟩⟩
 ·rcases List.mem_append.1 hx with hx | hx
  ·exact h.1 x hx
  ·rw [List.mem_singleton.1 hx]; exact ho
 ·rw [List.mem_singleton.1 hb]
  obtain ⟨k, hk, rfl⟩ := List.mem_iff_getElem.1 ha
  rw [List.length_take] at hk
  rw [List.getElem_take]
  have hl := hc (by omega) (by omega)
  by_cases e : k = i - 1
  ·subst e; exact hl
  ·have hp := List.pairwise_iff_getElem.1 h.2 k (i - 1) (by rw [List.length_take]; omega) (by rw [List.length_take]; omega) (by omega)
   rw [List.getElem_take, List.getElem_take] at hp
   exact cmpN_ord.trans _ _ _ hp hl
theorem j4h {l : List Note} (h : Rise q55 okN l) {i : Nat} (h0 : 0 < i) (hi : i < l.length) : q55 (l[i - 1]'(by omega)) l[i] < 0 :=
 List.pairwise_iff_getElem.1 h.2 (i - 1) i (by omega) hi (by omega)
theorem k4d (l : List Note) (hl : l.length ≤ 100000) (r : Bool) (hr : r = true ↔ Rise q55 okN l ∧ l.length ≤ 4096) (st : q43) : Rets P F.q3j [.agg [Note.lst false l]] st (.bool r) := by
 have hno : Hid (¬ Rise q55 okN l → r = false) := ⟨fun h => by
  rw [← Bool.not_eq_true]
  exact fun h2 => h (hr.1 h2).1⟩
 have hye : Hid (Rise q55 okN l → r = decide ((l.length : Int) ≤ 4096)) := ⟨fun h => by
  rw [Bool.eq_iff_iff, hr, decide_eq_true_eq]
  exact ⟨fun h2 => by omega, fun h2 => ⟨h, by omega⟩⟩⟩
 clear hr
 refine H.q3j.view q5d rfl rfl ?_
 repeat' (first 
  | (with_reducible refine Fresh.intro fun b hb => ?_) <;> (try simp -dsimp -implicitDefEqProofs [*] at hb)
  | (simp -dsimp -implicitDefEqProofs [*]))
 refine q44 (fun i : Nat => [(1, .ptr b 0), (2, .bool false), (6, Note.lst false l), (7, .int l.length), (8, .int i)]) (fun _ => (b, .arr T.apiPeer [Note.lst false l]) :: st) (fun i => i ≤ l.length ∧ Hid (Rise q55 okN (l.take i))) (fun i => l.length - i) 0 ⟨Nat.zero_le _, ⟨.nil⟩⟩ (by simp) (.refl _) ?_
 rintro i ⟨hi, hI⟩
 by_cases hil : i < l.length
 case neg =>
  obtain rfl : i = l.length := by omega
  have hR := hI.out
  rw [List.take_length] at hR
  have e := hye.out hR
  rw [e]
  clear hR e hye hno hI
  repeat' (simp -dsimp -implicitDefEqProofs [*])
  all_goals exact RetView.drop (st' := st) q5k ⟨rfl, rfl⟩
 have hwi := q46 (n := i) (by omega)
 have hs := Note.row_sub l i hil
 have hrl := Note.row_len l
 have f := fun st => k1p l[i] st
 cases hf : q5c l[i] with
 | false =>
  rw [hf] at f
  have e := hno.out fun h => by
   have := h.1 _ (List.getElem_mem hil)
   unfold okN at this
   rw [hf] at this
   cases this
  subst e
  clear hye hno hI hf
  generalize l[i] = x at *
  repeat' (first 
   | (with_reducible refine Fresh.intro fun b hb => ?_) <;> (try simp -dsimp -implicitDefEqProofs [*] at hb)
   | (with_reducible refine Rets.xcall (f _) ?_)
   | (with_reducible refine DrawLate.intro [] ?_)
   | (simp -dsimp -implicitDefEqProofs [*]))
  all_goals exact RetView.drop (st' := st) q5k ⟨rfl, rfl⟩
 | true =>
  rw [hf] at f
  by_cases h0 : i = 0
  ·subst h0
   have e := Hid.mk (k5i hil hI.out hf (fun h => absurd h (Nat.lt_irrefl 0)))
   clear hye hf hI
   have hw0 : IntKind.i64.wrap 1 = 1 := rfl
   generalize l[0] = x at *
   repeat' (first 
    | (with_reducible refine Fresh.intro fun b hb => ?_) <;> (try simp -dsimp -implicitDefEqProofs [*] at hb)
    | (with_reducible refine Rets.xcall (f _) ?_)
    | (with_reducible refine DrawLate.intro [] ?_)
    | (simp -dsimp -implicitDefEqProofs [*]))
   all_goals exact Next.intro 1 ⟨by omega, e⟩ (by omega) (by simp) q5k
  ·have hi1 : i - 1 < l.length := by omega
   have hw1 : IntKind.i64.wrap ((i : Int) - 1) = ((i - 1 : Nat) : Int) := by rw [q5a (by omega) (by omega)]; omega
   have hp : 0 < i := by omega
   have hs1 := Note.row_sub l (i - 1) hi1
   have hf1 : q5c l[i - 1] = true := hI.out.1 _ (by
    have h2 : i - 1 < (l.take i).length := by rw [List.length_take]; omega
    have := List.getElem_mem h2
    rwa [List.getElem_take] at this)
   have c := fun st => k2y l[i - 1] l[i] hf1 hf st
   by_cases hc : q55 l[i - 1] l[i] < 0
   ·have e := Hid.mk (k5i hil hI.out hf (fun _ _ => hc))
    have hc2 : ¬ 0 ≤ q55 l[i - 1] l[i] := by omega
    clear hye hno hf hf1 hI hc
    generalize q55 l[i - 1] l[i] = n at *
    generalize l[i - 1] = y at *
    generalize l[i] = x at *
    repeat' (first 
     | (with_reducible refine Fresh.intro fun b hb => ?_) <;> (try simp -dsimp -implicitDefEqProofs [*] at hb)
     | (with_reducible refine Rets.xcall (f _) ?_)
     | (with_reducible refine Rets.xcall (c _) ?_)
     | (with_reducible refine DrawLate.intro [] ?_)
     | (simp -dsimp -implicitDefEqProofs [*]))
    all_goals exact Next.intro (i + 1) ⟨by omega, e⟩ (by omega) (by simp) q5k
   ·have e := hno.out fun h => hc (j4h h (by omega) hil)
    have hc2 : 0 ≤ q55 l[i - 1] l[i] := by omega
    subst e
    clear hye hno hf hf1 hI hc
    generalize q55 l[i - 1] l[i] = n at *
    generalize l[i - 1] = y at *
    generalize l[i] = x at *
    repeat' (first 
     | (with_reducible refine Fresh.intro fun b hb => ?_) <;> (try simp -dsimp -implicitDefEqProofs [*] at hb)
     | (with_reducible refine Rets.xcall (f _) ?_)
     | (with_reducible refine Rets.xcall (c _) ?_)
     | (with_reducible refine DrawLate.intro [] ?_)
     | (simp -dsimp -implicitDefEqProofs [*]))
    all_goals exact RetView.drop (st' := st) q5k ⟨rfl, rfl⟩
end Go.Proofs.YtmlmoaimjifpgaaGreat
