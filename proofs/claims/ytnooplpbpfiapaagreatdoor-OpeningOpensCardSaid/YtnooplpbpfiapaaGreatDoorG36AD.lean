/- The key of a judge for a criterion, by the program. -/
import Derived.Test.YtnooplpbpfiapaaGreatDoorS36ZK
import Derived.Test.YtnooplpbpfiapaaGreatDoorG36X
import Derived.Test.YtnooplpbpfiapaaGreatDoorLBx
import Derived.Test.YtnooplpbpfiapaaGreatDoorG36A
namespace Go.Proofs.YtnooplpbpfiapaaGreatDoor
open Go.Pv Go.Pv.Ip
set_option maxRecDepth 100000
set_option maxHeartbeats 8000000
def isK (j c : Int) (x : Sh) : Bool := decide (x.o = j) && decide (x.c = c)
abbrev ptK (x : Sh) : Pt := ⟨x.h + 1, x.v⟩
def k47 (j c : Int) (ks : List Sh) : List Pt := (ks.filter (isK j c)).map ptK
theorem j1y {j c : Int} {ks : List Sh} {i : Nat} (h : i < ks.length) : k47 j c (ks.take (i + 1)) = if ks[i].o = j ∧ ks[i].c = c then k47 j c (ks.take i) ++ [ptK ks[i]] else k47 j c (ks.take i) := by
 unfold k47
 rw [List.take_succ_eq_append_getElem h, List.filter_append, List.map_append]
 by_cases e : ks[i].o = j ∧ ks[i].c = c
 ·rw [if_pos e]
  congr 1
  simp [isK, e.1, e.2]
 ·rw [if_neg e]
  have : isK j c ks[i] = false := by
   unfold isK
   by_cases e1 : ks[i].o = j
   ·have e2 : ¬ ks[i].c = c := fun h => e ⟨e1, h⟩
    simp [e2]
   ·simp [e1]
  simp [this]
def z3k (j c : Int) (ks : List Sh) (n : Nat) : Option Int :=
 if (k47 j c ks).length < n then none
 else if ((k47 j c ks).drop n).all (fun p => decide (atV (q57 ((k47 j c ks).take n)) p.X = p.Y)) = true then some (atV (q57 ((k47 j c ks).take n)) 0) else none
def KE (q : Nat) (j c : Int) (ks : List Sh) (y : Nat × Option (Acc Pt)) : Env := [(1, .int j), (2, .int c), (3, .ptr q 0), (8, k1e y.2), (17, Sh.lst false ks), (18, .int ks.length), (19, .int y.1)]
def KF (q : Nat) (j c : Int) (ks : List Sh) (y : Nat × Option (Acc Pt)) : Env := [(1, .int j), (2, .int c), (3, .ptr q 0), (8, Pt.lst false (q5c y.2)), (17, Sh.lst false ks), (18, .int ks.length), (19, .int y.1)]
def KI (j c : Int) (ks : List Sh) (st : q37) (y : Nat × Option (Acc Pt)) : Prop := y.1 ≤ ks.length ∧ accOk Pt.row 2 st y.2 ∧ q5c y.2 = k47 j c (ks.take y.1)
theorem KV (q : Nat) (j c : Int) (ks : List Sh) (st : q37) (y : Nat × Option (Acc Pt)) (h : KI j c ks st y) (_ : y.1 = ks.length) : View ⟨KE q j c ks y, q6c T.apiPoint st y.2⟩ ⟨KF q j c ks y, st⟩ :=
 View.acc rfl h.2.1 (.refl _) (by simp [KE, KF])
def y6v : Option Int → PV
 | none => .tuple [.int 0, .bool false]
 | some v => .tuple [.int v, .bool true]
theorem j4r (s : Ses) (j c : Int) (n : Nat) (hn : s.need = n) (hn2 : n ≤ 24) (hl : s.keys.length ≤ 1000) (hh : ∀ x ∈ s.keys, 0 ≤ x.h ∧ x.h < 256) (hg : GoodP (q57 ((k47 j c s.keys).take n))) (st : q37) : Rets P F.q2r [s.pv, .int j, .int c] st (y6v (z3k j c s.keys n)) := by
 obtain ⟨W, hW⟩ : ∃ W, W = z3k j c s.keys n := ⟨_, rfl⟩
 rw [← hW]
 unfold z3k at hW
 replace hW := Hid.mk hW
 replace hh := Hid.mk hh
 refine H.q2r.view q4m rfl rfl ?_
 repeat' (first 
  | (with_reducible refine Fresh.intro fun b hb => ?_) <;> (try simp -dsimp -implicitDefEqProofs [*] at hb)
  | (simp -dsimp -implicitDefEqProofs [*]))
 revert b; intro q hq
 obtain ⟨ks, hks⟩ : ∃ ks, ks = s.keys := ⟨_, rfl⟩
 rw [← hks] at hW hl hh hg ⊢
 refine z6m (KE q j c ks) (fun y => q6c T.apiPoint ((q, k4a s) :: st) y.2) (KI j c ks ((q, k4a s) :: st)) (fun y => ks.length - y.1) (fun y => y.1 = ks.length) (KF q j c ks) (fun _ => (q, k4a s) :: st)
  (KV q j c ks ((q, k4a s) :: st)) (0, none) ⟨Nat.zero_le _, trivial, rfl⟩ (by simp [KE]) (.refl _) ?_ ?_
 ·rintro ⟨i, o⟩ ⟨hi, ho, hA⟩ hi2
  replace hi2 : i = ks.length := hi2
  replace hA : q5c o = k47 j c (ks.take i) := hA
  subst hi2
  rw [List.take_length] at hA
  simp only [KF, hA]
  clear ho hA hi hks
  obtain ⟨L, hL⟩ : ∃ L, L = k47 j c ks := ⟨_, rfl⟩
  rw [← hL] at hW hg ⊢
  have hLl : L.length ≤ 1000 := by
   rw [hL]
   unfold k47
   rw [List.length_map]
   exact Nat.le_trans (List.length_filter_le _ _) hl
  clear hL hh
  by_cases h1 : L.length < n
  ·have e := hW.out
   rw [if_pos h1] at e
   subst e
   have h1' : (L.length : Int) < n := by omega
   clear hW hg
   repeat' (simp -dsimp -implicitDefEqProofs [*])
   exact RetView.drop (st' := st) q4p ⟨rfl, rfl⟩
  replace hW : Hid (W = if (L.drop n).all (fun p => decide (atV (q57 (L.take n)) p.X = p.Y)) = true then some (atV (q57 (L.take n)) 0) else none) := ⟨by have e := hW.out; rw [if_neg h1] at e; exact e⟩
  have h1' : ¬ (L.length : Int) < n := by omega
  obtain ⟨A, hA⟩ : ∃ A, A = L.take n := ⟨_, rfl⟩
  obtain ⟨D, hD⟩ : ∃ D, D = L.drop n := ⟨_, rfl⟩
  rw [← hA] at hg
  rw [← hA, ← hD] at hW
  have hAl : A.length = n := by rw [hA, List.length_take]; omega
  have hDl : L.length - n = D.length := by rw [hD, List.length_drop]
  have rA : (Pt.row L).take (n * 2) = Pt.row A := by rw [hA]; exact Pt.row_take L n
  have rD : (Pt.row L).drop (n * 2) = Pt.row D := by rw [hD]; exact Pt.row_drop L n
  have ca : ∀ z st, Rets P F.q3t [.list false (Pt.row A) n, .int z] st (.tuple [.int (atV (q57 A) z), .int 0]) := fun z st => by
   rw [← hAl]
   exact j4q false A (by omega) hg z st
  have hDl2 : D.length ≤ 1000 := by omega
  have hnL : (n : Int) ≤ L.length := by omega
  clear hA hD hg hAl
  repeat' (simp -dsimp -implicitDefEqProofs [*])
  refine q4e (fun i : Nat => [(3, .ptr q 0), (8, Pt.lst false L), (53, Pt.lst false D), (54, .int D.length), (55, .int i)]) (fun _ => (q, k4a s) :: st) (fun i => i ≤ D.length ∧ Hid (∀ k (h : k < D.length), k < i → atV (q57 A) D[k].X = D[k].Y)) (fun i => D.length - i) 0 ⟨Nat.zero_le _, ⟨fun k _ h => absurd h (by omega)⟩⟩ (by simp) (.refl _) ?_
  rintro i ⟨hi, hI⟩
  by_cases hil : i < D.length
  ·have hw := q4d (n := i) (by omega)
   have s0 := Pt.row_sub D i hil
   have hk : i * 2 < D.length * 2 := by omega
   have c1 := ca D[i].X
   have hI2 : Hid (atV (q57 A) D[i].X = D[i].Y → ∀ k (h : k < D.length), k < i + 1 → atV (q57 A) D[k].X = D[k].Y) := ⟨fun h k hk h2 => if e : k = i then by subst e; exact h else hI.out k hk (by omega)⟩
   have hno : Hid (¬ atV (q57 A) D[i].X = D[i].Y → W = none) := ⟨fun h => by
    rw [hW.out, if_neg]
    intro e
    exact h (of_decide_eq_true (List.all_eq_true.1 e _ (List.getElem_mem hil)))⟩
   obtain ⟨p, hp⟩ : ∃ p, p = D[i] := ⟨_, rfl⟩
   rw [← hp] at s0 c1 hI2 hno
   obtain ⟨v, hv⟩ : ∃ v, v = atV (q57 A) p.X := ⟨_, rfl⟩
   rw [← hv] at c1 hI2 hno
   clear hp hv hI hW ca
   by_cases e : v = p.Y
   ·have hI3 := Hid.mk (hI2.out e)
    clear hI2 hno
    repeat' (first 
     | (with_reducible refine Fresh.intro fun b hb => ?_) <;> (try simp -dsimp -implicitDefEqProofs [*] at hb)
     | (with_reducible refine Rets.xcall (c1 _) ?_)
     | (with_reducible refine DrawLate.intro [] ?_)
     | (simp -dsimp -implicitDefEqProofs [*]))
    exact Next.intro (i + 1) ⟨by omega, hI3⟩ (by omega) (by simp) q4p
   ·have e2 := hno.out e
    subst e2
    clear hI2 hno
    repeat' (first 
     | (with_reducible refine Fresh.intro fun b hb => ?_) <;> (try simp -dsimp -implicitDefEqProofs [*] at hb)
     | (with_reducible refine Rets.xcall (c1 _) ?_)
     | (with_reducible refine DrawLate.intro [] ?_)
     | (simp -dsimp -implicitDefEqProofs [*]))
    exact RetView.drop (st' := st) q4p ⟨rfl, rfl⟩
  ·obtain rfl : i = D.length := by omega
   have e : W = some (atV (q57 A) 0) := by
    rw [hW.out, if_pos]
    refine List.all_eq_true.2 fun p hp => ?_
    obtain ⟨k, hk, rfl⟩ := List.mem_iff_getElem.1 hp
    exact decide_eq_true (hI.out k hk hk)
   have c1 := ca 0
   rw [e]
   clear hW hI ca e
   repeat' (first 
    | (with_reducible refine Rets.xcall (c1 _) ?_)
    | (simp -dsimp -implicitDefEqProofs [*]))
   exact RetView.drop (st' := st) q4p ⟨rfl, rfl⟩
 ·rintro ⟨i, o⟩ ⟨hi, ho, hA⟩ hi2
  replace hi : i ≤ ks.length := hi
  replace ho : accOk Pt.row 2 ((q, k4a s) :: st) o := ho
  replace hi2 : ¬ i = ks.length := hi2
  replace hA : q5c o = k47 j c (ks.take i) := hA
  simp only [KE]
  have hil : i < ks.length := by omega
  have kv := Hid.mk (KV q j c ks ((q, k4a s) :: st))
  have hw := q4d (n := i) (by omega)
  have hi4 : i * 4 < ks.length * 4 := by omega
  have s0 := Sh.row_sub ks i hil
  have hst := j1y (j := j) (c := c) hil
  have hlen : (q5c o).length ≤ ks.length := by
   rw [hA]
   unfold k47
   rw [List.length_map]
   exact Nat.le_trans (List.length_filter_le _ _) (by rw [List.length_take]; omega)
  have hb := hh.out ks[i] (List.getElem_mem hil)
  rw [← hA] at hst
  obtain ⟨x, hx⟩ : ∃ x, x = ks[i] := ⟨_, rfl⟩
  rw [← hx] at s0 hst hb
  have hwh := q4h (n := x.h + 1) (by omega) (by omega)
  clear hx hA hi2 hW hh hg hks
  by_cases e1 : x.o = j
  case neg =>
   rw [if_neg (fun h => e1 h.1)] at hst
   replace hst := Hid.mk hst
   repeat' (first 
    | (with_reducible refine Fresh.intro fun b hb => ?_) <;> (try simp -dsimp -implicitDefEqProofs [*] at hb)
    | (simp -dsimp -implicitDefEqProofs [*]))
   exact NextF.intro kv.out (i + 1, o) ⟨by simp only; omega, ho, hst.out.symm⟩ (by simp only; omega) (by simp [KE]) q4p
  by_cases e2 : x.c = c
  case neg =>
   rw [if_neg (fun h => e2 h.2)] at hst
   replace hst := Hid.mk hst
   repeat' (first 
    | (with_reducible refine Fresh.intro fun b hb => ?_) <;> (try simp -dsimp -implicitDefEqProofs [*] at hb)
    | (simp -dsimp -implicitDefEqProofs [*]))
   exact NextF.intro kv.out (i + 1, o) ⟨by simp only; omega, ho, hst.out.symm⟩ (by simp only; omega) (by simp [KE]) q4p
  rw [if_pos ⟨e1, e2⟩] at hst
  replace hst := Hid.mk hst
  repeat' (first 
   | (with_reducible refine Fresh.intro fun b hb => ?_) <;> (try simp -dsimp -implicitDefEqProofs [*] at hb)
   | (with_reducible refine Lit.imm ?_)
   | (simp -dsimp -implicitDefEqProofs [*]))
  refine xappend_box Pt.row_len Pt.row_append o ho hb [ptK x] (by simp [Pt.enc]) rfl (by omega) (by omega) fun o2 ho2 hl2 => ?_
  have k1 : Hid (q5c o2 = k47 j c (ks.take (i + 1))) := ⟨by rw [hl2, hst.out]⟩
  clear hl2 hst
  repeat' (simp -dsimp -implicitDefEqProofs [*])
  exact NextF.intro kv.out (i + 1, o2) ⟨by simp only; omega, ho2.unbox, k1.out⟩ (by simp only; omega) (by simp [KE]) (StLe.box o2 (accB_new hb).2)
open Go.Pv Go.Pv.Ip
set_option maxRecDepth 100000
theorem z5g {n m : Int} : wiL n m = true ↔ 0 ≤ n ∧ n < m := by
 unfold wiL
 rw [Bool.and_eq_true, decide_eq_true_eq, decide_eq_true_eq]
structure RightP (s : Ses) : Prop where
 round : 0 ≤ s.round ∧ s.round < 8
 entry : 0 ≤ s.entry ∧ s.entry < 4096
 crits : 1 ≤ s.crits ∧ s.crits ≤ 64
 many : 1 ≤ s.judges.length ∧ s.judges.length ≤ 24
 need : 1 ≤ s.need ∧ s.need ≤ s.judges.length
 deadline : 0 ≤ s.deadline ∧ s.deadline < 2097152
 time : 0 ≤ s.time ∧ s.time < 2097152
 judges : q4v q9a s.judges = true
 judge : ∀ n ∈ s.judges, 0 ≤ n ∧ n < 256
 sealed : q4v cJ s.sealed = true
 card : ∀ x ∈ s.sealed, q8g s x = true
 keys : q4v k0o s.keys = true
 key : ∀ x ∈ s.keys, q6q s x = true
 shown : q4v nJ s.shown = true
 show_ : ∀ x ∈ s.shown, q7u s x = true
 gate : q6g s = true ∨ s.keys = [] ∧ s.shown = []
theorem q5s (s : Ses) : q5f s = true ↔ RightP s := by
 unfold q5f z1j
 simp only [Bool.and_eq_true, Bool.or_eq_true, decide_eq_true_eq, z5g, List.all_eq_true]
 constructor
 ·rintro ⟨⟨⟨⟨⟨⟨⟨a1, a2⟩, a3⟩, a4⟩, a5⟩, a6⟩, a7⟩, ⟨b1, b2⟩, ⟨c1, c2⟩, ⟨d1, d2⟩, ⟨e1, e2⟩, f⟩
  refine ⟨a1, a2, by omega, by omega, by omega, a6, a7, b1, b2, c1, c2, d1, d2, e1, e2, ?_⟩
  rcases f with f | f
  ·exact .inl f
  ·exact .inr ⟨List.length_eq_zero_iff.1 (by omega), List.length_eq_zero_iff.1 (by omega)⟩
 ·intro h
  have h3 := h.crits
  have h4 := h.many
  have h5 := h.need
  refine ⟨⟨⟨⟨⟨⟨⟨h.round, h.entry⟩, by omega⟩, by omega⟩, by omega⟩, h.deadline⟩, h.time⟩, ⟨h.judges, h.judge⟩, ⟨h.sealed, h.card⟩, ⟨h.keys, h.key⟩, ⟨h.shown, h.show_⟩, ?_⟩
  rcases h.gate with f | ⟨f, g⟩
  ·exact .inl f
  ·exact .inr (by rw [f, g]; rfl)
theorem z5h {s : Ses} {x : Sh} (h : q6q s x = true) : x.o ∈ s.judges ∧ x.h ∈ s.judges ∧ x.o ≠ x.h ∧ (0 ≤ x.c ∧ x.c < s.crits) ∧ 0 ≤ x.v ∧ x.v < Qi := by
 unfold q6q at h
 simp only [Bool.and_eq_true, decide_eq_true_eq, z5g] at h
 exact ⟨h.1.1.1.1, h.1.1.1.2, h.1.1.2, h.1.2, h.2⟩
theorem z3d {ks : List Sh} (h : q4v k0o ks = true) (j c : Int) : (k47 j c ks).Pairwise fun p q => p.X < q.X := by
 unfold k47
 rw [List.pairwise_map]
 have h1 := (q6p q97 h).sublist (List.filter_sublist (p := isK j c))
 refine h1.imp_of_mem fun {x y} hx hy hxy => ?_
 have ex := (List.mem_filter.1 hx).2
 have ey := (List.mem_filter.1 hy).2
 simp only [isK, Bool.and_eq_true, decide_eq_true_eq] at ex ey
 rw [k2y] at hxy
 show x.h + 1 < y.h + 1
 omega
theorem z64 {ks : List Sh} {j c : Int} {p : Pt} (h : p ∈ k47 j c ks) : ∃ x ∈ ks, x.o = j ∧ x.c = c ∧ p = ptK x := by
 unfold k47 at h
 obtain ⟨x, hx, rfl⟩ := List.mem_map.1 h
 obtain ⟨h1, h2⟩ := List.mem_filter.1 hx
 simp only [isK, Bool.and_eq_true, decide_eq_true_eq] at h2
 exact ⟨x, h1, h2.1, h2.2, rfl⟩
theorem j1z {l : List Pt} (h : l.Pairwise fun p q => p.X < q.X) (hx : ∀ p ∈ l, 0 ≤ p.X ∧ p.X ≤ 256) : GoodP (q57 l) where
 x i hi := by
  rw [q7o] at hi
  rw [Ip.X, q8r hi]
  exact hx _ (List.getElem_mem hi)
 ne i k hi hk hne := by
  rw [q7o] at hi hk
  rw [Ip.X, Ip.X, q8r hi, q8r hk]
  rcases Nat.lt_or_gt_of_ne hne with h1 | h1
  ·have := List.pairwise_iff_getElem.1 h i k hi hk h1
   simp only; omega
  ·have := List.pairwise_iff_getElem.1 h k i hk hi h1
   simp only; omega
theorem RightP.holder {s : Ses} (h : RightP s) : ∀ x ∈ s.keys, 0 ≤ x.h ∧ x.h < 256 := fun x hx => h.judge _ (z5h (h.key x hx)).2.1
theorem RightP.good {s : Ses} (h : RightP s) (j c : Int) (n : Nat) : GoodP (q57 ((k47 j c s.keys).take n)) := by
 refine j1z ((z3d h.keys j c).sublist (List.take_sublist _ _)) fun p hp => ?_
 obtain ⟨x, hx, -, -, rfl⟩ := z64 (List.mem_of_mem_take hp)
 have := h.holder x hx
 show 0 ≤ x.h + 1 ∧ x.h + 1 ≤ 256
 omega
open Go.Pv
set_option maxRecDepth 100000
theorem RightP.cards {s : Ses} (h : RightP s) : s.sealed.Pairwise fun x y => cJ x y < 0 := q6p z1g h.sealed
theorem RightP.shares {s : Ses} (h : RightP s) : s.keys.Pairwise fun x y => k0o x y < 0 := q6p q97 h.keys
theorem RightP.shows {s : Ses} (h : RightP s) : s.shown.Pairwise fun x y => nJ x y < 0 := q6p z1h h.shown
theorem RightP.dPass {s : Ses} (h : RightP s) {a : Act} (hp : z1n s a = true) : RightP { s with time := a.time } := by
 unfold z1n at hp
 simp only [Bool.and_eq_true, decide_eq_true_eq] at hp
 have ht := h.time
 refine ⟨h.round, h.entry, h.crits, h.many, h.need, h.deadline, ?_, h.judges, h.judge, h.sealed, h.card, h.keys, h.key, h.shown, h.show_, ?_⟩
 ·show 0 ≤ a.time ∧ a.time < 2097152
  omega
 ·rcases h.gate with k | k
  ·refine .inl ?_
   unfold q6g at k ⊢
   simp only [Bool.or_eq_true, decide_eq_true_eq] at k ⊢
   rcases k with k | k
   ·exact .inl (by omega)
   ·exact .inr k
  ·exact .inr k
structure SealF (s : Ses) (x : Card) (l : List Card) : Prop where
 shut : q6g s = false
 ok : q8g s x = true
 sorted : l.Pairwise fun x y => cJ x y < 0
 mem : ∀ y, y ∈ l ↔ y ∈ s.sealed ∨ y = x
 uniq : ∀ y ∈ s.sealed, y.j = x.j → y = x
 len : l = s.sealed ∨ l.length = s.sealed.length + 1
theorem k90 {s : Ses} (h : RightP s) {x : Card} {l : List Card} (hr : k4b s x = .inl l) : SealF s x l := by
 unfold k4b at hr
 split at hr
 ·cases hr
 rename_i h1
 split at hr
 ·rename_i h2
  split at hr
  ·rename_i l2 h3
   obtain rfl := Sum.inl.inj hr
   obtain ⟨a, b, c, d⟩ := kc_card.put h.cards (fun y _ e => z3a e) h3
   exact ⟨by simpa using h1, h2, a, b, fun y hy e => c y hy (cmpI_eq.2 e), d⟩
  ·cases hr
 ·cases hr
theorem j4s {s : Ses} {x : Card} (h1 : q6g s = false) (h2 : q8g s x = true) (hu : ∀ y ∈ s.sealed, y.j = x.j → y = x) : ∃ l, k4b s x = .inl l := by
 obtain ⟨l, hl⟩ := Kc.put_ok (c := cJ) (l := s.sealed) (x := x) (sm := fun y => k8r y x) (fun y _ e => z3a e) fun y hy e => hu y hy (cmpI_eq.1 e)
 refine ⟨l, ?_⟩
 unfold k4b
 rw [if_neg (by simp [h1]), if_pos h2]
 have : y5d s x = some l := hl
 rw [this]
theorem RightP.dSeal {s : Ses} (h : RightP s) {x : Card} {l : List Card} (hr : k4b s x = .inl l) : RightP { s with sealed := l } := by
 have f := k90 h hr
 have hg : s.keys = [] ∧ s.shown = [] := h.gate.resolve_left (by simp [f.shut])
 refine ⟨h.round, h.entry, h.crits, h.many, h.need, h.deadline, h.time, h.judges, h.judge, k39 f.sorted, fun y hy => ?_, h.keys, h.key, h.shown, ?_, .inr hg⟩
 ·show q8g s y = true
  rcases (f.mem y).1 hy with k | k
  ·exact h.card y k
  ·rw [k]; exact f.ok
 ·show ∀ x ∈ s.shown, _
  rw [hg.2]
  intro x hx
  cases hx
structure ShareF (s : Ses) (x : Sh) (l : List Sh) : Prop where
 opn : q6g s = true
 ok : q6q s x = true
 sorted : l.Pairwise fun x y => k0o x y < 0
 mem : ∀ y, y ∈ l ↔ y ∈ s.keys ∨ y = x
 uniq : ∀ y ∈ s.keys, k0o y x = 0 → y = x
 len : l = s.keys ∨ l.length = s.keys.length + 1
theorem k91 {y x : Sh} (_ : k0o y x = 0) : decide (y = x) = true ↔ y = x := by simp
theorem k7y {s : Ses} (h : RightP s) {x : Sh} {l : List Sh} (hr : q98 s x = .inl l) : ShareF s x l := by
 unfold q98 at hr
 split at hr
 ·rename_i h1
  split at hr
  ·rename_i h2
   split at hr
   ·rename_i l2 h3
    obtain rfl := Sum.inl.inj hr
    obtain ⟨a, b, c, d⟩ := kc_share.put h.shares (fun y _ e => k91 e) h3
    exact ⟨h1, h2, a, b, c, d⟩
   ·cases hr
  ·cases hr
 ·cases hr
theorem j10 {s : Ses} {x : Sh} (h1 : q6g s = true) (h2 : q6q s x = true) (hu : ∀ y ∈ s.keys, k0o y x = 0 → y = x) : ∃ l, q98 s x = .inl l := by
 obtain ⟨l, hl⟩ := Kc.put_ok (c := k0o) (l := s.keys) (x := x) (sm := fun y => decide (y = x)) (fun y _ e => k91 e) hu
 refine ⟨l, ?_⟩
 unfold q98
 rw [if_pos h1, if_pos h2]
 have : y5e s x = some l := hl
 rw [this]
theorem RightP.dShare {s : Ses} (h : RightP s) {x : Sh} {l : List Sh} (hr : q98 s x = .inl l) : RightP { s with keys := l } := by
 have f := k7y h hr
 refine ⟨h.round, h.entry, h.crits, h.many, h.need, h.deadline, h.time, h.judges, h.judge, h.sealed, h.card, k39 f.sorted, fun y hy => ?_, h.shown, h.show_, .inl f.opn⟩
 show q6q s y = true
 rcases (f.mem y).1 hy with k | k
 ·exact h.key y k
 ·rw [k]; exact f.ok
structure ShowF (s : Ses) (x : Shn) (l : List Shn) : Prop where
 opn : q6g s = true
 ok : q7u s x = true
 sorted : l.Pairwise fun x y => nJ x y < 0
 mem : ∀ y, y ∈ l ↔ y ∈ s.shown ∨ y = x
 uniq : ∀ y ∈ s.shown, y.j = x.j → y = x
 len : l = s.shown ∨ l.length = s.shown.length + 1
theorem k92 {s : Ses} (h : RightP s) {x : Shn} {l : List Shn} (hr : k4c s x = .inl l) : ShowF s x l := by
 unfold k4c at hr
 split at hr
 ·rename_i h1
  split at hr
  ·rename_i h2
   split at hr
   ·rename_i l2 h3
    obtain rfl := Sum.inl.inj hr
    obtain ⟨a, b, c, d⟩ := kc_shown.put h.shows (fun y _ e => k9z e) h3
    exact ⟨h1, h2, a, b, fun y hy e => c y hy (cmpI_eq.2 e), d⟩
   ·cases hr
  ·cases hr
 ·cases hr
theorem j4t {s : Ses} {x : Shn} (h1 : q6g s = true) (h2 : q7u s x = true) (hu : ∀ y ∈ s.shown, y.j = x.j → y = x) : ∃ l, k4c s x = .inl l := by
 obtain ⟨l, hl⟩ := Kc.put_ok (c := nJ) (l := s.shown) (x := x) (sm := fun y => k8s y x) (fun y _ e => k9z e) fun y hy e => hu y hy (cmpI_eq.1 e)
 refine ⟨l, ?_⟩
 unfold k4c
 rw [if_pos h1, if_pos h2]
 have : y5f s x = some l := hl
 rw [this]
theorem RightP.dShow {s : Ses} (h : RightP s) {x : Shn} {l : List Shn} (hr : k4c s x = .inl l) : RightP { s with shown := l } := by
 have f := k92 h hr
 refine ⟨h.round, h.entry, h.crits, h.many, h.need, h.deadline, h.time, h.judges, h.judge, h.sealed, h.card, h.keys, h.key, k39 f.sorted, fun y hy => ?_, .inl f.opn⟩
 show q7u s y = true
 rcases (f.mem y).1 hy with k | k
 ·exact h.show_ y k
 ·rw [k]; exact f.ok
inductive Did (s : Ses) (a : Act) : Ses → Prop
 | dPass (_ : a.kind = 1) (_ : z1n s a = true) : Did s a { s with time := a.time }
 | dSeal (_ : a.kind = 2) {l : List Card} (_ : k4b s a.card = .inl l) : Did s a { s with sealed := l }
 | dShare (_ : a.kind = 3) {l : List Sh} (_ : q98 s a.key = .inl l) : Did s a { s with keys := l }
 | dShow (_ : a.kind = 4) {l : List Shn} (_ : k4c s a.shown = .inl l) : Did s a { s with shown := l }
theorem j11 {s : Ses} {a : Act} {x : Ses} (h : doR s a = .inl x) : q5f s = true ∧ Did s a x := by
 unfold doR at h
 split at h
 ·rename_i h0
  refine ⟨h0, ?_⟩
  split at h
  ·rename_i h1
   split at h
   ·rename_i h2
    obtain rfl := Sum.inl.inj h
    exact .dPass h1 h2
   ·cases h
  split at h
  ·rename_i h1
   split at h
   ·rename_i l h2
    obtain rfl := Sum.inl.inj h
    exact .dSeal h1 h2
   ·cases h
  split at h
  ·rename_i h1
   split at h
   ·rename_i l h2
    obtain rfl := Sum.inl.inj h
    exact .dShare h1 h2
   ·cases h
  split at h
  ·rename_i h1
   split at h
   ·rename_i l h2
    obtain rfl := Sum.inl.inj h
    exact .dShow h1 h2
   ·cases h
  cases h
 ·cases h
theorem Did.to {s : Ses} {a : Act} {x : Ses} (h0 : q5f s = true) (h : Did s a x) : doR s a = .inl x := by
 unfold doR
 rw [if_pos h0]
 cases h with
 | dPass h1 h2 => rw [if_pos h1, if_pos h2]
 | dSeal h1 h2 => rw [if_neg (by omega), if_pos h1, h2]
 | dShare h1 h2 => rw [if_neg (by omega), if_neg (by omega), if_pos h1, h2]
 | dShow h1 h2 => rw [if_neg (by omega), if_neg (by omega), if_neg (by omega), if_pos h1, h2]
theorem Did.right {s : Ses} {a : Act} {x : Ses} (h : Did s a x) (hr : RightP s) : RightP x := by
 cases h with
 | dPass h1 h2 => exact hr.dPass h2
 | dSeal h1 h2 => exact hr.dSeal h2
 | dShare h1 h2 => exact hr.dShare h2
 | dShow h1 h2 => exact hr.dShow h2
theorem y3h {s : Ses} {a : Act} {x : Ses} (h : doR s a = .inl x) : doE s a = 0 ∧ doS s a = x := by
 unfold doE doS
 rw [h]
 exact ⟨rfl, rfl⟩
open Go.Pv
set_option maxRecDepth 100000
set_option maxHeartbeats 4000000
theorem z1r (g : FuncId) (c : Shn → Int) (y : Int) (t : Bool) (l : List Shn) (hl : l.length ≤ 1024) (hm : Falls c l) (st : q37) (hg : ∀ x ∈ l, ∀ st', StLe st st' → Rets P g [x.pv, .int y] st' (.int (c x))) : Rets P F.q0h [Shn.lst t l, .int y, .func (.func g) [] []] st (.tuple [.int (q8q c l), .bool (k5v c l)]) := by
 refine H.q0h.view q4m rfl rfl ?_
 repeat' (simp -dsimp -implicitDefEqProofs [*])
 refine q4e (fun x : Nat × Nat => [(0, Shn.lst t l), (1, .int y), (2, .func (.func g) [] []), (8, .int l.length), (9, .int (x.1 : Nat)), (10, .int (x.2 : Nat))]) (fun _ => st)
  (fun x => x.1 ≤ x.2 ∧ x.2 ≤ l.length ∧ Hid ((∀ k, k < x.1 → ∀ h : k < l.length, c l[k] < 0) ∧ (∀ k, x.2 ≤ k → ∀ h : k < l.length, 0 ≤ c l[k]))) (fun x => x.2 - x.1) (0, l.length) ⟨Nat.zero_le _, Nat.le_refl _, ⟨fun k h => absurd h (by simp), fun k h1 h2 => absurd h1 (by simp only; omega)⟩⟩ (by simp) (.refl _) ?_
 rintro ⟨i, j⟩ ⟨h1, h2, h3⟩
 replace h1 : i ≤ j := h1
 replace h2 : j ≤ l.length := h2
 replace h3 : Hid ((∀ k, k < i → ∀ h : k < l.length, c l[k] < 0) ∧ (∀ k, j ≤ k → ∀ h : k < l.length, 0 ≤ c l[k])) := h3
 by_cases hij : i < j
 ·have hm1 : IntKind.i64.wrap ((i : Int) + j) = (i : Int) + j := q4h (by omega) (by omega)
  have hm2 : IntKind.u64.wrap ((i : Int) + j) = (i : Int) + j := q8k (by omega) (by omega)
  have hm3 := z2t (i := i) (j := j) (by omega)
  obtain ⟨m, hmd⟩ : ∃ m, m = (i + j) / 2 := ⟨_, rfl⟩
  rw [← hmd] at hm3
  have hm4 := q4d (n := m) (by omega)
  have him : i ≤ m ∧ m < j := by omega
  have hml : m < l.length := by omega
  have s0 := Shn.row_sub l m hml
  have hk : m * 34 < l.length * 34 := by omega
  have hc := hg l[m] (List.getElem_mem hml) st (.refl _)
  have f1 : Hid (c l[m] < 0 → (∀ k, k < m + 1 → ∀ h : k < l.length, c l[k] < 0) ∧ (∀ k, j ≤ k → ∀ h : k < l.length, 0 ≤ c l[k])) := ⟨fun hn => ⟨fun k hk h => if e : k = m then by subst e; exact hn else hm.out k m (by omega) hml hn (h' := h), h3.out.2⟩⟩
  have f2 : Hid (0 ≤ c l[m] → (∀ k, k < i → ∀ h : k < l.length, c l[k] < 0) ∧ (∀ k, m ≤ k → ∀ h : k < l.length, 0 ≤ c l[k])) := ⟨fun hp => ⟨h3.out.1, fun k hk h => Int.not_lt.1 fun hn => by
   by_cases e : k = m
   ·subst e; omega
   ·have := hm.out m k (by omega) h hn (h' := hml); omega⟩⟩
  obtain ⟨x, hx⟩ : ∃ x, x = l[m] := ⟨_, rfl⟩
  rw [← hx] at s0 hc f1 f2
  obtain ⟨v, hv⟩ : ∃ v, v = c x := ⟨_, rfl⟩
  rw [← hv] at hc f1 f2
  clear hmd hx hv h3 hg hm
  by_cases hv0 : v < 0
  ·have h5 := Hid.mk (f1.out hv0)
   clear f1 f2
   repeat' (first 
    | (with_reducible refine Rets.xcall (hc) ?_)
    | (simp -dsimp -implicitDefEqProofs [*]))
   exact Next.intro (m + 1, j) ⟨by simp only; omega, h2, h5⟩ (by simp only; omega) (by simp) q4p
  ·have hv1 : 0 ≤ v := by omega
   have h5 := Hid.mk (f2.out hv1)
   clear f1 f2
   repeat' (first 
    | (with_reducible refine Rets.xcall (hc) ?_)
    | (simp -dsimp -implicitDefEqProofs [*]))
   exact Next.intro (i, m) ⟨by simp only; omega, by simp only; omega, h5⟩ (by simp only; omega) (by simp) q4p
 ·obtain rfl : j = i := by omega
  obtain ⟨e1, e2⟩ := q96 h2 h3.out.1 h3.out.2
  rw [← e1, e2]
  have kl : (j : Int) < l.length ↔ j < l.length := by omega
  clear h3
  by_cases hjl : j < l.length
  ·have s0 := Shn.row_sub l j hjl
   have hk : j * 34 < l.length * 34 := by omega
   have hc := hg l[j] (List.getElem_mem hjl) st (.refl _)
   have hjl2 : (j : Int) < l.length := by omega
   rw [dif_pos hjl]
   obtain ⟨x, hx⟩ : ∃ x, x = l[j] := ⟨_, rfl⟩
   rw [← hx] at s0 hc ⊢
   obtain ⟨v, hv⟩ : ∃ v, v = c x := ⟨_, rfl⟩
   rw [← hv] at hc ⊢
   clear hx hv hg hm e1 e2 kl
   repeat' (first 
    | (with_reducible refine Rets.xcall (hc) ?_)
    | (simp -dsimp -implicitDefEqProofs [*]))
   exact .same ⟨rfl, rfl⟩
  ·have hjl2 : ¬ (j : Int) < l.length := by omega
   rw [dif_neg hjl]
   clear hg hm e1 e2 kl
   repeat' (simp -dsimp -implicitDefEqProofs [*])
   exact .same ⟨rfl, rfl⟩
end Go.Proofs.YtnooplpbpfiapaaGreatDoor
