/- The reference: At. -/
import Derived.Test.YtnooplpbpfiapaaGreatDoorG36CF
import Derived.Test.YtnooplpbpfiapaaGreatDoorG36X
import Derived.Test.YtnooplpbpfiapaaGreatDoorLBx
import Derived.Test.YtnooplpbpfiapaaGreatDoorG36AG
import Derived.Test.YtnooplpbpfiapaaGreatDoorG36CA
namespace Go.Proofs.YtnooplpbpfiapaaGreatDoor
open Go.Pv Go.Pv.Ip
set_option maxRecDepth 100000
set_option maxHeartbeats 8000000
theorem j67 (t : Bool) (l : List Pt) (hl : l.length ≤ 24) (hg : GoodP (q56 l)) (z : Int) (st : q5d) : Rets P F.q3u [Pt.lst t l, .int z] st (.tuple [.int (atV (q56 l) z), .int 0]) := by
 have cd := k99 t l hl hg
 obtain ⟨W, hW⟩ : ∃ W, W = atV (q56 l) z := ⟨_, rfl⟩
 rw [← hW]
 have hl2 : ¬ (24 : Int) < l.length := by omega
 have kW := Hid.mk hW
 clear hW hg
 refine H.q3u.view q5n rfl rfl ?_
 repeat' (first 
  | (with_reducible refine Rets.xcall (cd _) ?_)
  | (simp -dsimp -implicitDefEqProofs [*]))
 clear cd
 refine q5g (fun n : Nat => [(0, Pt.lst t l), (1, .int z), (6, .int (z3b (q56 l) z n % Qi)), (7, .int n)]) (fun _ => st) (fun n => n ≤ l.length) (fun n => l.length - n) 0 (Nat.zero_le _) (by simp [z3b]) (.refl _) ?_
 intro n hn
 by_cases hnl : n < l.length
 ·have hw := q5h (n := n) (by omega)
  have hpx : Hid ((q56 l).getD n (0, 0) = (l[n].X, l[n].Y)) := ⟨q8h hnl⟩
  have gY := Pt.row_get1 l n hnl
  have gX := Pt.row_get0 l n hnl
  have cY := q9a l[n].Y
  obtain ⟨y, hy⟩ : ∃ y, y = l[n].Y := ⟨_, rfl⟩
  obtain ⟨x, hx⟩ : ∃ x, x = l[n].X := ⟨_, rfl⟩
  rw [← hy] at gY cY hpx
  rw [← hx] at gX hpx
  have EY : ∀ h, (Pt.row l)[n * 2 + 1]'h = .int y := fun h => by have := List.getElem?_eq_getElem h; rw [gY] at this; exact (Option.some.inj this).symm
  have EX : ∀ h, (Pt.row l)[n * 2]'h = .int x := fun h => by have := List.getElem?_eq_getElem h; rw [gX] at this; exact (Option.some.inj this).symm
  have b1 : n * 2 + 1 < l.length * 2 := by omega
  have b0 : n * 2 < l.length * 2 := by omega
  have hXn : Hid (Ip.X (q56 l) n = x) := ⟨by rw [Ip.X, hpx.out]⟩
  obtain ⟨p0, hp0⟩ : ∃ p, p = y % Qi := ⟨_, rfl⟩
  rw [← hp0] at cY
  have kp0 : Hid (p0 = k2x (q56 l) z n 0 % Qi) := ⟨by rw [hp0]; unfold k2x k2k; rw [Int.mul_one, Ip.Y, hpx.out]⟩
  clear hp0
  obtain ⟨S, hS⟩ : ∃ S, S = z3b (q56 l) z n % Qi := ⟨_, rfl⟩
  rw [← hS]
  replace hS := Hid.mk hS
  clear hx hy hpx kW
  repeat' (first 
   | (with_reducible refine Rets.xcall (cY _) ?_)
   | (simp -dsimp -implicitDefEqProofs [-Pt.row_getE0, -Pt.row_getE1, *]))
  refine q5g (fun k : Nat => [(0, Pt.lst t l), (1, .int z), (6, .int S), (7, .int n), (8, .int (k2x (q56 l) z n k % Qi)), (9, .int k)]) (fun _ => st) (fun k => k ≤ l.length) (fun k => l.length - k) 0 (Nat.zero_le _) (by simp [← kp0.out]) (.refl _) ?_
  intro k hk
  by_cases hkl : k < l.length
  ·have hw2 := q5h (n := k) (by omega)
   by_cases hkn : k = n
   ·subst hkn
    have e : k2x (q56 l) z k (k + 1) = k2x (q56 l) z k k := by unfold k2x; rw [k2k, if_pos rfl]
    have e := Hid.mk e
    clear kp0
    repeat' (simp -dsimp -implicitDefEqProofs [*])
    exact Next.intro (k + 1) (by omega) (by omega) (by simp [e.out]) q5q
   ·have e : k2x (q56 l) z n (k + 1) = k2x (q56 l) z n k * ((z - l[k].X) * k3l (x - l[k].X)) := by
     unfold k2x
     rw [k2k, if_neg hkn]
     have e1 : Ip.X (q56 l) k = l[k].X := by rw [Ip.X, q8h hkl]
     rw [hXn.out, e1]
     grind
    have hkn2 : ¬ (k : Int) = n := by omega
    have gK := Pt.row_get0 l k hkl
    obtain ⟨u, hu⟩ : ∃ u, u = l[k].X := ⟨_, rfl⟩
    rw [← hu] at gK e
    have EK : ∀ h, (Pt.row l)[k * 2]'h = .int u := fun h => by have := List.getElem?_eq_getElem h; rw [gK] at this; exact (Option.some.inj this).symm
    have b2 : k * 2 < l.length * 2 := by omega
    have c1 := q9a u
    have hr := k0c u
    have hwn : IntKind.i64.wrap (-(u % Qi)) = -(u % Qi) := q5m (by unfold Qi at *; omega) (by omega)
    have c2 := k98 x (-(u % Qi))
    have c3 := z34 ((x % Qi + (-(u % Qi)) % Qi) % Qi)
    rw [y5e] at c3
    have c4 := k98 z (-(u % Qi))
    have c5 := k6i ((z % Qi + (-(u % Qi)) % Qi) % Qi) (k3l (x - u))
    have c6 := k6i (k2x (q56 l) z n k % Qi) ((z % Qi + (-(u % Qi)) % Qi) % Qi % Qi * (k3l (x - u) % Qi) % Qi)
    rw [j4i, ← e] at c6
    obtain ⟨v, hv⟩ : ∃ v, v = k3l (x - u) := ⟨_, rfl⟩
    rw [← hv] at c3 c5 c6
    obtain ⟨A, hA⟩ : ∃ A, A = (z % Qi + (-(u % Qi)) % Qi) % Qi := ⟨_, rfl⟩
    rw [← hA] at c4 c5 c6
    obtain ⟨B, hB⟩ : ∃ B, B = (x % Qi + (-(u % Qi)) % Qi) % Qi := ⟨_, rfl⟩
    rw [← hB] at c2 c3
    obtain ⟨C, hC⟩ : ∃ C, C = A % Qi * (v % Qi) % Qi := ⟨_, rfl⟩
    rw [← hC] at c5 c6
    obtain ⟨r, hr2⟩ : ∃ r, r = u % Qi := ⟨_, rfl⟩
    rw [← hr2] at c1 c2 c4 hwn
    obtain ⟨E, hE⟩ : ∃ E, E = (if B % Qi = 0 then (120 : Int) else 0) := ⟨_, rfl⟩
    rw [← hE] at c3
    obtain ⟨p1, hp1⟩ : ∃ p, p = k2x (q56 l) z n (k + 1) % Qi := ⟨_, rfl⟩
    rw [← hp1] at c6
    obtain ⟨p2, hp2⟩ : ∃ p, p = k2x (q56 l) z n k % Qi := ⟨_, rfl⟩
    rw [← hp2] at c6 ⊢
    replace hp1 := Hid.mk hp1
    clear hu hv hA hB hC hr2 hE hp2 e hr kp0 hXn
    repeat' (first 
     | (with_reducible refine Rets.xcall (c1 _) ?_)
     | (with_reducible refine Rets.xcall (c2 _) ?_)
     | (with_reducible refine Rets.xcall (c3 _) ?_)
     | (with_reducible refine Rets.xcall (c4 _) ?_)
     | (with_reducible refine Rets.xcall (c5 _) ?_)
     | (with_reducible refine Rets.xcall (c6 _) ?_)
     | (with_reducible refine DrawLate.intro [] ?_)
     | (simp -dsimp -implicitDefEqProofs [-Pt.row_getE0, -Pt.row_getE1, *]))
    exact Next.intro (k + 1) (by omega) (by omega) (by simp [hp1.out]) q5q
  ·obtain rfl : k = l.length := by omega
   have hfin : (S % Qi + (k2x (q56 l) z n l.length % Qi) % Qi) % Qi = z3b (q56 l) z (n + 1) % Qi := by
    rw [hS.out, z3b]
    have e1 : Cg (k2x (q56 l) z n l.length) (z63 (q56 l) z n) := by
     have := j3c (q56 l) z n
     rwa [q71] at this
    exact (((Cg.mod _).trans (Cg.mod _)).add ((Cg.mod _).trans ((Cg.mod _).trans e1))).emod
   have c1 := k98 S (k2x (q56 l) z n l.length % Qi)
   rw [hfin] at c1
   obtain ⟨p, hp⟩ : ∃ p, p = k2x (q56 l) z n l.length % Qi := ⟨_, rfl⟩
   rw [← hp] at c1 ⊢
   obtain ⟨S1, hS1⟩ : ∃ S, S = z3b (q56 l) z (n + 1) % Qi := ⟨_, rfl⟩
   rw [← hS1] at c1
   replace hS1 := Hid.mk hS1
   clear hp hfin kp0
   repeat' (first 
    | (with_reducible refine Rets.xcall (c1 _) ?_)
    | (simp -dsimp -implicitDefEqProofs [*]))
   exact Next.intro (n + 1) (by omega) (by omega) (by simp [hS1.out]) q5q
 ·obtain rfl : n = l.length := by omega
  have e : W = z3b (q56 l) z l.length % Qi := by rw [kW.out, atV, q71]
  rw [← e]
  clear kW e
  repeat' (simp -dsimp -implicitDefEqProofs [*])
  exact .same ⟨rfl, rfl⟩
open Go.Pv Go.Pv.Ip
set_option maxRecDepth 100000
set_option maxHeartbeats 8000000
def LE (q : Nat) (j c : Int) (y : Nat × Option (Acc Pt)) : Env := [(1, .int j), (2, .int c), (3, .ptr q 0), (8, accQ y.2), (9, .int y.1)]
def LF (q : Nat) (j c : Int) (y : Nat × Option (Acc Pt)) : Env := [(1, .int j), (2, .int c), (3, .ptr q 0), (8, Pt.lst y.2.isNone (q5y y.2)), (9, .int y.1)]
theorem LV (q : Nat) (j c : Int) (ks : List Sh) (st : q5d) (y : Nat × Option (Acc Pt)) (h : KI j c ks st y) (_ : y.1 = ks.length) : View ⟨LE q j c y, q6o T.apiPoint st y.2⟩ ⟨LF q j c y, st⟩ :=
 View.accQ rfl h.2.1 (.refl _) (by simp [LE, LF])
theorem j4j (s : Ses) (j c : Int) (n : Nat) (hn : s.need = n) (hn2 : n ≤ 24) (hl : s.keys.length ≤ 1000) (hh : ∀ x ∈ s.keys, 0 ≤ x.h ∧ x.h < 256) (hg : GoodP (q56 ((k6j j c s.keys).take n))) (st : q5d) : Rets P F.q4e [s.pv, .int j, .int c] st (y2p (j04 j c s.keys n)) := by
 obtain ⟨W, hW⟩ : ∃ W, W = j04 j c s.keys n := ⟨_, rfl⟩
 rw [← hW]
 unfold j04 at hW
 replace hW := Hid.mk hW
 replace hh := Hid.mk hh
 refine H.q4e.view q5n rfl rfl ?_
 repeat' (first 
  | (with_reducible refine Fresh.intro fun b hb => ?_) <;> (try simp -dsimp -implicitDefEqProofs [*] at hb)
  | (with_reducible refine Lit.imm ?_)
  | (simp -dsimp -implicitDefEqProofs [-q5f, *]))
 revert b; intro q hq
 refine k8e (LE q j c) (fun y => q6o T.apiPoint ((q, .arr T.apiSession s.enc) :: st) y.2) (KI j c s.keys ((q, .arr T.apiSession s.enc) :: st)) (fun y => s.keys.length - y.1) (fun y => y.1 = s.keys.length) (LF q j c) (fun _ => (q, .arr T.apiSession s.enc) :: st)
  (LV q j c s.keys ((q, .arr T.apiSession s.enc) :: st)) (0, none) ⟨Nat.zero_le _, trivial, rfl⟩ (by simp [LE, accQ]) (.refl _) ?_ ?_
 ·rintro ⟨i, o⟩ ⟨hi, ho, hA⟩ hi2
  replace hi2 : i = s.keys.length := hi2
  replace hA : q5y o = k6j j c (s.keys.take i) := hA
  subst hi2
  rw [List.take_length] at hA
  simp only [LF, hA]
  obtain ⟨t, ht⟩ : ∃ t, t = o.isNone := ⟨_, rfl⟩
  rw [← ht]
  clear ho hA hi ht
  obtain ⟨L, hL⟩ : ∃ L, L = k6j j c s.keys := ⟨_, rfl⟩
  rw [← hL] at hW hg ⊢
  have hLl : L.length ≤ 1000 := by
   rw [hL]
   unfold k6j
   rw [List.length_map]
   exact Nat.le_trans (List.length_filter_le _ _) hl
  clear hL hh
  by_cases h1 : L.length < n
  ·have e := hW.out
   rw [if_pos h1] at e
   subst e
   have h1' : (L.length : Int) < n := by omega
   clear hW hg
   repeat' (simp -dsimp -implicitDefEqProofs [*])
   exact RetView.drop (st' := st) q5q ⟨rfl, rfl⟩
  replace hW : Hid (W = if (L.drop n).all (fun p => decide (atV (q56 (L.take n)) p.X = p.Y)) = true then some (atV (q56 (L.take n)) 0) else none) := ⟨by have e := hW.out; rw [if_neg h1] at e; exact e⟩
  have h1' : ¬ (L.length : Int) < n := by omega
  obtain ⟨A, hA⟩ : ∃ A, A = L.take n := ⟨_, rfl⟩
  rw [← hA] at hg hW
  have hAl : A.length = n := by rw [hA, List.length_take]; omega
  have rA : (Pt.row L).take (n * 2) = Pt.row A := by rw [hA]; exact Pt.row_take L n
  have ca : ∀ z st, Rets P F.q3u [.list false (Pt.row A) n, .int z] st (.tuple [.int (atV (q56 A) z), .int 0]) := fun z st => by
   rw [← hAl]
   exact j67 false A (by omega) hg z st
  have hnL : (n : Int) ≤ L.length := by omega
  have hnL2 : n ≤ L.length := by omega
  clear hA hg hAl
  repeat' (simp -dsimp -implicitDefEqProofs [*])
  refine q5g (fun i : Nat => [(3, .ptr q 0), (8, Pt.lst t L), (11, .int i)]) (fun _ => (q, .arr T.apiSession s.enc) :: st) (fun i => (n ≤ i ∧ i ≤ L.length) ∧ Hid (∀ k (h : k < L.length), n ≤ k → k < i → atV (q56 A) L[k].X = L[k].Y)) (fun i => L.length - i) n ⟨⟨Nat.le_refl _, hnL2⟩, ⟨fun k _ h h2 => absurd h (by omega)⟩⟩ (by simp [hn]) (.refl _) ?_
  rintro i ⟨⟨hni, hi⟩, hI⟩
  by_cases hil : i < L.length
  ·have hw := q5h (n := i) (by omega)
   have gX := Pt.row_get0 L i hil
   have gY := Pt.row_get1 L i hil
   have b0 : i * 2 < L.length * 2 := by omega
   have b1 : i * 2 + 1 < L.length * 2 := by omega
   have c1 := ca L[i].X
   have hI2 : Hid (atV (q56 A) L[i].X = L[i].Y → ∀ k (h : k < L.length), n ≤ k → k < i + 1 → atV (q56 A) L[k].X = L[k].Y) := ⟨fun h k hk h0 h2 => if e : k = i then by subst e; exact h else hI.out k hk h0 (by omega)⟩
   have hno : Hid (¬ atV (q56 A) L[i].X = L[i].Y → W = none) := ⟨fun h => by
    rw [hW.out, if_neg]
    intro e
    refine h (of_decide_eq_true (List.all_eq_true.1 e _ ?_))
    have : L[i] = (L.drop n)[i - n]'(by rw [List.length_drop]; omega) := by rw [List.getElem_drop]; congr 1; omega
    rw [this]
    exact List.getElem_mem _⟩
   obtain ⟨x, hx⟩ : ∃ x, x = L[i].X := ⟨_, rfl⟩
   obtain ⟨y, hy⟩ : ∃ y, y = L[i].Y := ⟨_, rfl⟩
   rw [← hx] at gX c1
   rw [← hy] at gY
   rw [← hx, ← hy] at hI2 hno
   have EX : ∀ h, (Pt.row L)[i * 2]'h = .int x := fun h => by have := List.getElem?_eq_getElem h; rw [gX] at this; exact (Option.some.inj this).symm
   have EY : ∀ h, (Pt.row L)[i * 2 + 1]'h = .int y := fun h => by have := List.getElem?_eq_getElem h; rw [gY] at this; exact (Option.some.inj this).symm
   obtain ⟨v, hv⟩ : ∃ v, v = atV (q56 A) x := ⟨_, rfl⟩
   rw [← hv] at c1 hI2 hno
   clear hx hy hv hI hW ca
   by_cases e : v = y
   ·have hI3 := Hid.mk (hI2.out e)
    clear hI2 hno
    repeat' (first 
     | (with_reducible refine Rets.xcall (c1 _) ?_)
     | (with_reducible refine DrawLate.intro [] ?_)
     | (simp -dsimp -implicitDefEqProofs [-Pt.row_getE0, -Pt.row_getE1, *]))
    exact Next.intro (i + 1) ⟨⟨by omega, by omega⟩, hI3⟩ (by omega) (by simp) q5q
   ·have e2 := hno.out e
    subst e2
    clear hI2 hno
    repeat' (first 
     | (with_reducible refine Rets.xcall (c1 _) ?_)
     | (with_reducible refine DrawLate.intro [] ?_)
     | (simp -dsimp -implicitDefEqProofs [-Pt.row_getE0, -Pt.row_getE1, *]))
    exact RetView.drop (st' := st) q5q ⟨rfl, rfl⟩
  ·obtain rfl : i = L.length := by omega
   have e : W = some (atV (q56 A) 0) := by
    rw [hW.out, if_pos]
    refine List.all_eq_true.2 fun p hp => ?_
    obtain ⟨k, hk, rfl⟩ := List.mem_iff_getElem.1 hp
    rw [List.length_drop] at hk
    rw [List.getElem_drop]
    exact decide_eq_true (hI.out _ (by omega) (by omega) (by omega))
   have c1 := ca 0
   rw [e]
   clear hW hI ca e
   repeat' (first 
    | (with_reducible refine Rets.xcall (c1 _) ?_)
    | (simp -dsimp -implicitDefEqProofs [*]))
   exact RetView.drop (st' := st) q5q ⟨rfl, rfl⟩
 ·rintro ⟨i, o⟩ ⟨hi, ho, hA⟩ hi2
  replace hi : i ≤ s.keys.length := hi
  replace ho : accOk Pt.row 2 ((q, .arr T.apiSession s.enc) :: st) o := ho
  replace hi2 : ¬ i = s.keys.length := hi2
  replace hA : q5y o = k6j j c (s.keys.take i) := hA
  simp only [LE]
  have hil : i < s.keys.length := by omega
  have kv := Hid.mk (LV q j c s.keys ((q, .arr T.apiSession s.enc) :: st))
  have hw := q5h (n := i) (by omega)
  have hi4 : i * 4 < s.keys.length * 4 := by omega
  have s0 := Sh.row_sub s.keys i hil
  have hst := z5p (j := j) (c := c) hil
  have hlen : (q5y o).length ≤ s.keys.length := by
   rw [hA]
   unfold k6j
   rw [List.length_map]
   exact Nat.le_trans (List.length_filter_le _ _) (by rw [List.length_take]; omega)
  have hbx := hh.out s.keys[i] (List.getElem_mem hil)
  rw [← hA] at hst
  obtain ⟨x, hx⟩ : ∃ x, x = s.keys[i] := ⟨_, rfl⟩
  rw [← hx] at s0 hst hbx
  have hwh := q5m (n := x.h + 1) (by omega) (by omega)
  have hg1 : q5w (q6o T.apiPoint ((q, .arr T.apiSession s.enc) :: st) o) q = some (.arr T.apiSession s.enc) := by
   cases o with
   | none => simp
   | some a => exact (StLe.fresh ho.2) _ _ (by simp)
  clear hx hA hi2 hW hh hg
  by_cases e1 : x.o = j
  case neg =>
   rw [if_neg (fun h => e1 h.1)] at hst
   replace hst := Hid.mk hst
   repeat' (first 
    | (with_reducible refine Fresh.intro fun b hb => ?_) <;> (try simp -dsimp -implicitDefEqProofs [*] at hb)
    | (simp -dsimp -implicitDefEqProofs [-q5f, *]))
   exact NextF.intro kv.out (i + 1, o) ⟨by simp only; omega, ho, hst.out.symm⟩ (by simp only; omega) (by simp [LE]) q5q
  by_cases e2 : x.c = c
  case neg =>
   rw [if_neg (fun h => e2 h.2)] at hst
   replace hst := Hid.mk hst
   repeat' (first 
    | (with_reducible refine Fresh.intro fun b hb => ?_) <;> (try simp -dsimp -implicitDefEqProofs [*] at hb)
    | (simp -dsimp -implicitDefEqProofs [-q5f, *]))
   exact NextF.intro kv.out (i + 1, o) ⟨by simp only; omega, ho, hst.out.symm⟩ (by simp only; omega) (by simp [LE]) q5q
  rw [if_pos ⟨e1, e2⟩] at hst
  replace hst := Hid.mk hst
  repeat' (first 
   | (with_reducible refine Fresh.intro fun b hb => ?_) <;> (try simp -dsimp -implicitDefEqProofs [*] at hb)
   | (with_reducible refine Lit.imm ?_)
   | (simp -dsimp -implicitDefEqProofs [-q5f, *]))
  clear hg1
  refine z47 Pt.row_len Pt.row_append o ho hb [ptK x] (by simp [Pt.enc]) rfl (by omega) (by omega) fun o2 ho2 hl2 => ?_
  have k1 : Hid (q5y o2 = k6j j c (s.keys.take (i + 1))) := ⟨by rw [hl2, hst.out]⟩
  clear hl2 hst
  repeat' (simp -dsimp -implicitDefEqProofs [-q5f, *])
  exact NextF.intro kv.out (i + 1, o2) ⟨by simp only; omega, ho2.unbox, k1.out⟩ (by simp only; omega) (by simp [LE]) (StLe.box o2 (accB_new hb).2)
open Go.Pv Go.Pv.Ip
set_option maxRecDepth 100000
set_option maxHeartbeats 16000000
theorem Shn.row_get1 (l : List Shn) (i : Nat) (h : i < l.length) : (Shn.row l)[i * 34 + 1]? = some (q5k false l[i].k) := q7n Shn.enc 34 Shn.len l i 1 h (by omega)
theorem Shn.row_salt (l : List Shn) (i : Nat) (h : i < l.length) : sub (Shn.row l) (i * 34 + 2) 32 = some (q5e l[i].s.1) := by
 have h3 : (Shn.row l).length = l.length * 34 := Shn.row_len _
 have h4 := Shn.row_sub l i h
 unfold sub at h4 ⊢
 rw [if_pos (by omega)] at h4 ⊢
 have h5 := Option.some.inj h4
 have h6 : ((Shn.row l).drop (i * 34 + 2)).take 32 = (l[i].enc.drop 2).take 32 := by
  rw [← h5, List.drop_take, List.drop_drop, List.take_take, Nat.min_eq_left (by omega)]
 rw [h6]
 have h7 := Shn.sub_s l[i]
 unfold sub at h7
 rw [if_pos (by simp)] at h7
 exact h7
theorem j1f {α : Type} {p : α → Bool} {l : List α} {i : Nat} (h : i < l.length) (h1 : ∀ k (_ : k < i) (h : k < l.length), p l[k] = false) (h2 : p l[i] = true) : l.find? p = some l[i] := by
 rw [List.find?_eq_some_iff_getElem]
 exact ⟨h2, i, h, rfl, fun k hk => by rw [h1 k hk (by omega)]; rfl⟩
theorem j4k {α : Type} {p : α → Bool} {l : List α} (h1 : ∀ k (h : k < l.length), p l[k] = false) : l.find? p = none := by
 rw [List.find?_eq_none]
 intro x hx
 obtain ⟨k, hk, rfl⟩ := List.mem_iff_getElem.1 hx
 rw [h1 k hk]
 simp
def KeyI (s : Ses) (j : Int) (i : Nat) (l : List Int) : Prop := q76 s j i = some l ∨ (q76 s j i = none ∧ l.length < i)
theorem KeyI.yes {s : Ses} {j : Int} {i : Nat} {l : List Int} (h : KeyI s j i l) {v : Int} (hv : j04 j i s.keys s.need.toNat = some v) : KeyI s j (i + 1) (l ++ [v]) := by
 rcases h with h | ⟨h, h2⟩
 ·refine .inl ?_
  rw [q76, h, hv]
 ·refine .inr ⟨by rw [q76, h], ?_⟩
  rw [List.length_append, List.length_singleton]
  omega
theorem KeyI.no {s : Ses} {j : Int} {i : Nat} {l : List Int} (h : KeyI s j i l) (hv : j04 j i s.keys s.need.toNat = none) : KeyI s j (i + 1) l := by
 rcases h with h | ⟨h, h2⟩
 ·refine .inr ⟨by rw [q76, h, hv], ?_⟩
  have := k0n h
  omega
 ·exact .inr ⟨by rw [q76, h], by omega⟩
theorem KeyI.len {s : Ses} {j : Int} {i : Nat} {l : List Int} (h : KeyI s j i l) : l.length ≤ i := by
 rcases h with h | ⟨h, h2⟩
 ·have := k0n h; omega
 ·omega
theorem z78 (s : Ses) (hL : s.Len) (hR : RightP s) (hl : s.keys.length ≤ 1000) (ho : q8j s = true) (j : Int) (st : q5d) : Rets P F.q36 [s.pv, .int j] st (q7a s j).pv := by
 obtain ⟨n, hn⟩ : ∃ n : Nat, s.need = n := ⟨s.need.toNat, by have := hR.need; omega⟩
 obtain ⟨m, hm⟩ : ∃ m : Nat, s.crits = m := ⟨s.crits.toNat, by have := hR.crits; omega⟩
 have hm64 : m ≤ 64 := by have := hR.crits; omega
 have hn24 : n ≤ 24 := by have := hR.need; have := hR.many; omega
 have hnn : s.need.toNat = n := by omega
 have hmm : s.crits.toNat = m := by omega
 have ck := fun c : Nat => j4j s j c n hn hn24 hl hR.holder (hR.good j c n)
 have cc := z18 s hL.sealed j
 have hls := hL.shown
 have hd := hR.deadline
 have hwd : IntKind.i64.wrap (s.deadline + 1440) = s.deadline + 1440 := q5m (by omega) (by omega)
 obtain ⟨W, hW⟩ : ∃ W, W = q7a s j := ⟨_, rfl⟩
 rw [← hW]
 unfold q7a at hW
 rw [if_pos ho] at hW
 refine H.q36.view q5n rfl rfl ?_
 rcases z9g s j with ⟨e1, e2⟩ | ⟨a, ha, e1, e2⟩
 ·rw [e1] at hW
  rw [e2] at cc
  replace hW : W = ⟨3, []⟩ := hW
  subst hW
  clear ck e1 e2 hL hR ho
  repeat' (first 
   | (with_reducible refine Fresh.intro fun b hb => ?_) <;> (try simp -dsimp -implicitDefEqProofs [*] at hb)
   | (with_reducible refine Rets.xcall (cc _) ?_)
   | (simp -dsimp -implicitDefEqProofs [*]))
  exact RetView.le (k1o 3) (RetView.drop (st' := st) q5q ⟨rfl, rfl⟩)
 rw [e1] at hW
 rw [e2] at cc
 simp only at hW
 have hxc := hL.cards _ (List.getElem_mem ha)
 have xj := (z31 e1).1
 have sx := Card.row_sub s.sealed a ha
 have hax : a * 36 < s.sealed.length * 36 := by omega
 obtain ⟨x, hx⟩ : ∃ x, x = s.sealed[a] := ⟨_, rfl⟩
 rw [← hx] at hW hxc xj sx
 have hgiv := Hid.mk hL.given
 have hW := Hid.mk hW
 rename_i hWo
 clear hWo e1 e2 hx hL hR ho
 repeat' (first 
  | (with_reducible refine Fresh.intro fun b hb => ?_) <;> (try simp -dsimp -implicitDefEqProofs [*] at hb)
  | (with_reducible refine Rets.xcall (cc _) ?_)
  | (with_reducible refine And.intro (fun h => ?_) ?_) <;> (try (exfalso; omega))
  | (simp -dsimp -implicitDefEqProofs [*]))
 revert b
 revert b
 intro b1 hb1 b2 hb2
 clear cc
 refine q5g (fun i : Nat => [(1, .int j), (2, .ptr b1 0), (4, .ptr b2 0), (5, .int a), (6, .int i)]) (fun _ => (b2, .arr T.apiOpened [.int 0, .nil]) :: (b1, .arr T.apiSession s.enc) :: st) (fun i => i ≤ s.shown.length ∧ Hid (∀ k (_ : k < i) (h : k < s.shown.length), decide (s.shown[k].j = j) = false)) (fun i => s.shown.length - i) 0 ⟨Nat.zero_le _, ⟨fun k h => absurd h (by omega)⟩⟩ (by simp) (.refl _) ?_
 rintro i ⟨hi, hI⟩
 by_cases hil : i < s.shown.length
 ·have hw := q5h (n := i) (by omega)
  have g0 := Shn.row_get0 s.shown i hil
  have G0 : ∀ h, (Shn.row s.shown)[i * 34]'h = .int s.shown[i].j := fun h => by have := List.getElem?_eq_getElem h; rw [g0] at this; exact (Option.some.inj this).symm
  have b0 : i * 34 < s.shown.length * 34 := by omega
  by_cases hj : s.shown[i].j = j
  ·have e := hW.out
   have e3 : q99 s j = some s.shown[i] := j1f hil hI.out (decide_eq_true hj)
   rw [e3] at e
   simp only at e
   have g1 := Shn.row_get1 s.shown i hil
   have g2 := Shn.row_salt s.shown i hil
   have hyk := hgiv.out _ (List.getElem_mem hil)
   obtain ⟨y, hy⟩ : ∃ y, y = s.shown[i] := ⟨_, rfl⟩
   rw [← hy] at e g0 g1 g2 hyk hj
   simp only [← hy] at G0
   have G1 : ∀ h, (Shn.row s.shown)[i * 34 + 1]'h = q5k false y.k := fun h => by have := List.getElem?_eq_getElem h; rw [g1] at this; exact (Option.some.inj this).symm
   have b1' : i * 34 + 1 < s.shown.length * 34 := by omega
   have b2' : i * 34 + 2 < s.shown.length * 34 := by omega
   have co := fun st => k71 false false x.r x.e x.j x.c y.k hxc hyk x.d.1 y.s.1 x.d.2 y.s.2 st
   have co2 : ∀ st, Rets P F.q2h [x.pv, q5k false y.k, .agg (q5e y.s.1)] st (.tuple [k22 (q8s x y), .bool (q8s x y).isSome, .int (if q6f x.r x.e x.j x.c y.k then 0 else 340)]) := co
   have hle := j36 1 (q8s x y)
   subst e
   generalize q8s x y = O at *
   generalize q6f x.r x.e x.j x.c y.k = B at *
   clear co hI hW hy e3 hgiv ck
   have hoc : (k22 O).cells = some [k22 O] := by cases O <;> rfl
   repeat' (first 
    | (with_reducible refine Rets.xcall (co2 _) ?_)
    | (with_reducible refine DrawLate.intro [] ?_)
    | (simp -dsimp -implicitDefEqProofs [*]))
   exact RetView.le hle (RetView.drop (st' := st) q5q ⟨rfl, rfl⟩)
  ·have hI2 : Hid (∀ k (_ : k < i + 1) (h : k < s.shown.length), decide (s.shown[k].j = j) = false) := ⟨fun k hk h => if e : k = i then by subst e; exact decide_eq_false hj else hI.out k (by omega) h⟩
   clear hI hW ck hgiv
   repeat' (simp -dsimp -implicitDefEqProofs [*])
   exact Next.intro (i + 1) ⟨by omega, hI2⟩ (by omega) (by simp) q5q
 obtain rfl : i = s.shown.length := by omega
 have e3 : q99 s j = none := j4k fun k hk => hI.out k hk hk
 have hW2 := hW.out
 rw [e3] at hW2
 replace hW2 : W = match k1n s x with
  | some m => ⟨2, m⟩
  | none => if z71 s = true then ⟨3, []⟩ else ⟨0, []⟩ := hW2
 unfold k1n at hW2
 rw [hmm, xj] at hW2
 have hW3 := Hid.mk hW2
 clear hW2 hW hI hil e3 hgiv hi
 repeat' (first 
  | (with_reducible refine Lit.imm ?_)
  | (simp -dsimp -implicitDefEqProofs [-q5f, *]))
 obtain ⟨ST, hST⟩ : ∃ ST : q5d, ST = (b2, .arr T.apiOpened [.int 0, .nil]) :: (b1, .arr T.apiSession s.enc) :: st := ⟨_, rfl⟩
 have hs1 : q5w ST b1 = some (.arr T.apiSession s.enc) := by rw [hST]; simp [*]
 have hs2 : q5w ST b2 = some (.arr T.apiOpened [.int 0, .nil]) := by rw [hST]; simp
 have hv : ∀ y : Nat × Option (Acc Int), (y.1 ≤ m ∧ accOk q6j 1 ST y.2 ∧ KeyI s j y.1 (q5y y.2)) → y.1 = m → View ⟨[(1, .int j), (2, .ptr b1 0), (4, .ptr b2 0), (5, .int a), (10, accQ y.2), (11, .int y.1)], q6o T.int ST y.2⟩ ⟨[(1, .int j), (2, .ptr b1 0), (4, .ptr b2 0), (5, .int a), (10, q5k y.2.isNone (q5y y.2)), (11, .int y.1)], ST⟩ := fun y h _ => View.accQ rfl h.2.1 (.refl _) (by simp)
 replace hST := Hid.mk hST
 refine k8e (fun y : Nat × Option (Acc Int) => [(1, .int j), (2, .ptr b1 0), (4, .ptr b2 0), (5, .int a), (10, accQ y.2), (11, .int y.1)]) (fun y => q6o T.int ST y.2) (fun y => y.1 ≤ m ∧ accOk q6j 1 ST y.2 ∧ KeyI s j y.1 (q5y y.2)) (fun y => m - y.1) (fun y => y.1 = m) (fun y : Nat × Option (Acc Int) => [(1, .int j), (2, .ptr b1 0), (4, .ptr b2 0), (5, .int a), (10, q5k y.2.isNone (q5y y.2)), (11, .int y.1)]) (fun _ => ST) hv (0, none) ⟨Nat.zero_le _, trivial, .inl rfl⟩ (by simp [accQ]) (by rw [hST.out]; exact .refl _) ?_ ?_
 ·rintro ⟨i, o⟩ ⟨hi, ho, hA⟩ hi2
  replace hi2 : i = m := hi2
  subst hi2
  replace hA : KeyI s j i (q5y o) := hA
  simp only
  have e := hST.out
  subst e
  obtain ⟨t, ht⟩ : ∃ t, t = o.isNone := ⟨_, rfl⟩
  rw [← ht]
  obtain ⟨L, hL⟩ : ∃ L, L = q5y o := ⟨_, rfl⟩
  rw [← hL] at hA ⊢
  have hLl := hA.len
  have hlate : z71 s = decide (s.deadline + 1440 ≤ s.time) := rfl
  have hW3 := hW3.out
  rw [hlate] at hW3
  clear ho ht hL hST hs1 hs2 hv ck hlate hi
  rcases hA with hA | ⟨hA, hA2⟩
  ·have hkl := k0n hA
   rw [hA] at hW3
   simp only at hW3
   have cs := fun st => z3x false t x.r x.e x.j x.c L hxc (by omega) x.d.1 x.d.2 st
   have cs2 : ∀ st, Rets P F.q3a [x.pv, q5k t L] st (.tuple [k22 (q8d x.r x.e x.j x.c L), .int (j43 (q8d x.r x.e x.j x.c L))]) := cs
   rw [← xj] at hW3
   generalize q8d x.r x.e x.j x.c L = O at *
   clear cs hA
   have hLi : (L.length : Int) = i := by omega
   cases O with
   | some v =>
    replace hW3 : W = ⟨2, v⟩ := hW3
    subst hW3
    simp only [k22, j43] at cs2
    repeat' (first 
     | (with_reducible refine Rets.xcall (cs2 _) ?_)
     | (simp -dsimp -implicitDefEqProofs [*]))
    exact RetView.drop (st' := st) q5q ⟨rfl, rfl⟩
   | none =>
    simp only [k22, j43] at cs2 hW3
    by_cases hlt : s.deadline + 1440 ≤ s.time
    ·rw [if_pos (decide_eq_true hlt)] at hW3
     subst hW3
     repeat' (first 
      | (with_reducible refine Rets.xcall (cs2 _) ?_)
      | (simp -dsimp -implicitDefEqProofs [*]))
     exact RetView.le (k1o 3) (RetView.drop (st' := st) q5q ⟨rfl, rfl⟩)
    ·rw [if_neg (by simp [hlt])] at hW3
     subst hW3
     repeat' (first 
      | (with_reducible refine Rets.xcall (cs2 _) ?_)
      | (simp -dsimp -implicitDefEqProofs [*]))
     exact RetView.le (k1o 0) (RetView.drop (st' := st) q5q ⟨rfl, rfl⟩)
  ·rw [hA] at hW3
   simp only at hW3
   have hne : ¬ (L.length : Int) = i := by omega
   clear hA
   by_cases hlt : s.deadline + 1440 ≤ s.time
   ·rw [if_pos (decide_eq_true hlt)] at hW3
    subst hW3
    repeat' (simp -dsimp -implicitDefEqProofs [*])
    exact RetView.le (k1o 3) (RetView.drop (st' := st) q5q ⟨rfl, rfl⟩)
   ·rw [if_neg (by simp [hlt])] at hW3
    subst hW3
    repeat' (simp -dsimp -implicitDefEqProofs [*])
    exact RetView.le (k1o 0) (RetView.drop (st' := st) q5q ⟨rfl, rfl⟩)
 ·rintro ⟨i, o⟩ ⟨hi, ho, hA⟩ hi2
  replace hi : i ≤ m := hi
  replace ho : accOk q6j 1 ST o := ho
  replace hi2 : ¬ i = m := hi2
  replace hA : KeyI s j i (q5y o) := hA
  simp only
  have kv := Hid.mk hv
  have hil : i < m := by omega
  have hw := q5h (n := i) (by omega)
  have c1 := ck i
  have hlen := hA.len
  have hg1 : q5w (q6o T.int ST o) b1 = some (.arr T.apiSession s.enc) := k0l ho hs1
  have hg2 : q5w (q6o T.int ST o) b2 = some (.arr T.apiOpened [.int 0, .nil]) := k0l ho hs2
  cases hk : j04 j i s.keys n with
  | none =>
   have hA2 := Hid.mk (hA.no (by rw [hnn]; exact hk))
   rw [hk] at c1
   simp only [y2p] at c1
   clear hA hW3 hk ck hv
   repeat' (first 
    | (with_reducible refine Rets.xcall (c1 _) ?_)
    | (simp -dsimp -implicitDefEqProofs [-q5f, *]))
   clear hg1 hg2
   exact NextF.intro kv.out (i + 1, o) ⟨by simp only; omega, ho, hA2.out⟩ (by simp only; omega) (by simp) (.refl _)
  | some v =>
   have hA2 := Hid.mk (hA.yes (by rw [hnn]; exact hk))
   rw [hk] at c1
   simp only [y2p] at c1
   clear hA hW3 hk ck hv
   repeat' (first 
    | (with_reducible refine Rets.xcall (c1 _) ?_)
    | (with_reducible refine Lit.imm ?_)
    | (simp -dsimp -implicitDefEqProofs [-q5f, *]))
   clear hg1 hg2
   refine k1b k34 k0j o ho [v] (by simp [q6j]) rfl (by omega) fun o2 ho2 hl2 => ?_
   have k1 : Hid (KeyI s j (i + 1) (q5y o2)) := ⟨by rw [hl2]; exact hA2.out⟩
   clear hl2 hA2 ho
   repeat' (simp -dsimp -implicitDefEqProofs [-q5f, *])
   exact NextF.intro kv.out (i + 1, o2) ⟨by simp only; omega, ho2, k1.out⟩ (by simp only; omega) (by simp) (.refl _)
end Go.Proofs.YtnooplpbpfiapaaGreatDoor
