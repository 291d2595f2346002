/- Copying and inserting Sh. -/
import Derived.Test.YtnooplpbpfiapaaGreatDoorG36A
import Derived.Test.YtnooplpbpfiapaaGreatDoorG36P
import Derived.Test.YtnooplpbpfiapaaGreatDoorG36T
namespace Go.Proofs.YtnooplpbpfiapaaGreatDoor
open Go.Pv
set_option maxRecDepth 100000
set_option maxHeartbeats 8000000
def y47 (l : List Sh) (cap : Nat) : PObj := .arr T.apiKeyShare (Sh.row l ++ List.replicate ((cap - l.length) * 4) .any)
def y0i (l : List Sh) (st : q5d) (e : PEnd) (s : q5d) : Prop :=
 l = [] ∧ e = .ret (.list true [] 0) ∧ s = st ∨ ∃ b cap, q6u st b ∧ l.length ≤ cap ∧ cap ≤ 9223372036854775807 ∧ e = .ret (.own b 0 l.length cap) ∧ s = (b, y47 l cap) :: st
theorem j02 (t : Bool) (l : List Sh) (hl : l.length ≤ 1024) (st : q5d) : PCalls P F.q0u [Sh.lst t l] st (y0i l st) := by
 refine H.q0u.view q5n rfl rfl ?_
 repeat' (first 
  | (with_reducible refine Lit.imm ?_)
  | ((with_reducible refine Grow.intro ?_ fun b cap hb hc1 hc2 => ?_); omega) <;> (try simp -dsimp -implicitDefEqProofs [*] at hb)
  | (with_reducible refine And.intro (fun h => ?_) (fun h => ?_)) <;> (try (exfalso; omega))
  | (with_reducible refine And.intro (fun h => ?_) ?_) <;> (try (exfalso; omega))
  | (simp -dsimp -implicitDefEqProofs [*]))
 ·exact .sees (.nil _) (.same (.inl ⟨rfl, rfl, rfl⟩))
 ·exact .same (.inl ⟨rfl, rfl, rfl⟩)
 ·exact .same (.inr ⟨_, _, hb, hc1, hc2, rfl, rfl⟩)
theorem z0x (x : Sh) (b off n' cap : Nat) (row : List PV) (st : q5d) (hg : q5w st b = some (.arr T.apiKeyShare row)) : Rets P F.q41 [.list true x.enc 1, .own b off n' cap] st (.bool false) :=
 k3i (tR := T.bool) (k := 4) (ag := true) Tryz.func165 (by kernel_rfl) (by kernel_rfl) (by kernel_rfl) (by kernel_rfl) Tryz.underlying24 (by kernel_rfl) (by omega) (by simp) hg
def j6p (l : List Sh) (i : Nat) (x : Sh) (st : q5d) (e : PEnd) (s : q5d) : Prop := e = .ret (Sh.lst false (ins l i x)) ∧ s = st
theorem z9c (l : List Sh) (i : Nat) (x : Sh) : Sh.row (ins l i x) = Sh.row (l.take i) ++ x.enc ++ Sh.row (l.drop i) := by
 simp [ins, Sh.row_append]
theorem z14 (l : List Sh) (i : Nat) (x : Sh) (hi : i ≤ l.length) (Y : List PV) (hY : 4 + (l.length - i) * 4 ≤ Y.length) :
  (q5i (q5i (Sh.row (l.take i) ++ Y) ((i + 1) * 4) (Sh.row (l.drop i))) (i * 4) x.enc).take ((l.length + 1) * 4) = Sh.row (ins l i x) ∧
  (q5i (q5i (Sh.row (l.take i) ++ Y) (i * 4) x.enc) ((i + 1) * 4) (Sh.row (l.drop i))).take ((l.length + 1) * 4) = Sh.row (ins l i x) := by
 have h1 : (Sh.row (l.take i)).length = i * 4 := by simp; omega
 have h2 : (Sh.row (l.drop i)).length = (l.length - i) * 4 := by simp
 have h3 : x.enc.length = 4 := x.len
 have := k3h (Sh.row (l.take i)) Y x.enc (Sh.row (l.drop i)) (by omega)
 rw [h1, h2, h3, show i * 4 + 4 = (i + 1) * 4 by omega, show (i + 1) * 4 + (l.length - i) * 4 = (l.length + 1) * 4 by omega] at this
 rw [z9c]
 exact this
theorem k7a (l : List Sh) (i : Nat) (C : List PV) (h : i ≤ l.length) : (Sh.row l ++ C).take (i * 4) = Sh.row (l.take i) ∧ ((Sh.row l ++ C).drop (i * 4)).take ((l.length - i) * 4) = Sh.row (l.drop i) := by
 have h1 : (Sh.row (l.take i)).length = i * 4 := by simp; omega
 have h2 : (Sh.row (l.drop i)).length = (l.length - i) * 4 := by simp
 have e : Sh.row l = Sh.row (l.take i) ++ Sh.row (l.drop i) := by rw [← Sh.row_append, List.take_append_drop]
 rw [e, List.append_assoc]
 exact ⟨List.take_left' h1, by rw [List.drop_left' h1, List.take_left' h2]⟩
theorem z7q (l : List Sh) (hl : l.length ≤ 1024) (i : Nat) (hi : i ≤ l.length) (x : Sh) (b cap : Nat) (hc1 : l.length ≤ cap) (hc2 : cap ≤ 9223372036854775807) (R : List PV) (hR1 : R.length = cap * 4) (hR2 : ∃ C, R = Sh.row l ++ C)
  (st : q5d) (hb : q6u st b) :
  PCalls P F.q0f [.own b 0 l.length cap, .int i, .list true x.enc 1] ((b, .arr T.apiKeyShare R) :: st) (j6p l i x st) := by
 have hw : IntKind.i64.wrap ((l.length : Int) + 1) = (l.length : Int) + 1 := q5h (by omega)
 have hw2 : IntKind.i64.wrap ((l.length : Int) + 1 - i) = (l.length : Int) + 1 - i := q5m (by omega) (by omega)
 have hw3 : IntKind.i64.wrap ((i : Int) + 1) = (i : Int) + 1 := q5h (by omega)
 have ht1 : ((l.length : Int) + 1 - i).toNat = l.length + 1 - i := by omega
 have ht2 : ((i : Int) + 1).toNat = i + 1 := by omega
 have ht3 : ((l.length : Int) + 1).toNat = l.length + 1 := by omega
 have ht4 : i + (l.length + 1 - i) = l.length + 1 := by omega
 have hm1 : min (l.length + 1 - i) (l.length - i) = l.length - i := by omega
 have hm2 : min 1 (l.length + 1 - i) = 1 := by omega
 refine H.q0f.view q5n rfl rfl ?_
 rcases Nat.lt_or_ge i l.length with hil | hil
 ·have hm3 : min (l.length - i) (l.length - i) = l.length - i := by omega
  rcases Nat.lt_or_ge cap (l.length + 1) with hcap | hcap
  ·have hq1 : i * 4 + (l.length - i) * 4 ≤ cap * 4 := by omega
   repeat' (first 
    | (with_reducible refine And.intro (fun h => ?_) (fun h => ?_)) <;> (try (exfalso; omega))
    | ((with_reducible refine q51 ?_ fun hk => ?_); omega)
    | (simp -dsimp -implicitDefEqProofs [*]))
   refine k3g (row := R) (by simp) (by simp [hR1]) (by omega) hc2 (by omega) (fun h => absurd h (by omega)) fun _ => ?_
   have hq4 : (i + 1) * 4 + (l.length - i) * 4 ≤ i * 4 + ((l.length + 1 - i) * 4 + (cap - (l.length + 1)) * 4) := by omega
   have hq5 : i * 4 + 4 ≤ i * 4 + ((l.length + 1 - i) * 4 + (cap - (l.length + 1)) * 4) := by omega
   have hq6 : min (i * 4) (cap * 4) = i * 4 := by omega
   repeat' (first 
    | ((with_reducible refine Grow.intro ?_ fun b cap hb hc1 hc2 => ?_); omega) <;> (try simp -dsimp -implicitDefEqProofs [*] at hb)
    | (with_reducible refine RetView.fz 4 ?_ ?_)
    | (with_reducible refine RetView.same ?_)
    | (with_reducible refine And.intro (fun h => ?_) (fun h => ?_)) <;> (try (exfalso; omega))
    | (with_reducible refine And.intro (fun h => ?_) ?_) <;> (try (exfalso; omega))
    | ((with_reducible refine q51 ?_ fun hk => ?_); omega)
    | (simp -dsimp -implicitDefEqProofs [*]))
   refine ⟨?_, rfl⟩
   obtain ⟨C, rfl⟩ := hR2
   have h1 := k7a l i C hi
   have h2 : List.take 4 x.enc = x.enc := List.take_of_length_le (by simp)
   rw [List.take_take, Nat.min_self, h1.1, h1.2, h2, (z14 l i x hi _ (by simp; omega)).2]
   simp [q9r, hi]
  ·have hq1 : i * 4 + (l.length + 1 - i) * 4 ≤ cap * 4 := by omega
   have hq2 : (i + 1) * 4 + (l.length - i) * 4 ≤ cap * 4 := by omega
   have hq3 : i * 4 + 4 ≤ cap * 4 := by omega
   repeat' (first 
    | (with_reducible refine Rets.xcall (z0x _ _ _ _ _ R _ (by simp)) ?_)
    | (with_reducible refine RetView.fz 4 ?_ ?_)
    | (with_reducible refine RetView.same ?_)
    | (with_reducible refine And.intro (fun h => ?_) (fun h => ?_)) <;> (try (exfalso; omega))
    | (with_reducible refine And.intro (fun h => ?_) ?_) <;> (try (exfalso; omega))
    | ((with_reducible refine q51 ?_ fun hk => ?_); omega)
    | (simp -dsimp -implicitDefEqProofs [*]))
   refine ⟨?_, rfl⟩
   obtain ⟨C, rfl⟩ := hR2
   have h1 := k7a l i C hi
   have h2 : List.take 4 x.enc = x.enc := List.take_of_length_le (by simp)
   have e : Sh.row l = Sh.row (l.take i) ++ Sh.row (l.drop i) := by rw [← Sh.row_append, List.take_append_drop]
   have h3 : (l.length - i) * 4 ≤ (l.length + 1 - i) * 4 := by omega
   rw [List.take_take, Nat.min_eq_left h3, h1.2, h2, e, List.append_assoc]
   rw [e, List.append_assoc] at hR1
   have h4 : (Sh.row (List.take i l)).length = i * 4 := by simp; omega
   rw [List.length_append, h4] at hR1
   rw [(z14 l i x hi _ (by omega)).1]
   simp [q9r, hi]
 ·obtain rfl : i = l.length := by omega
  have hfin : ∀ D, List.take ((l.length + 1) * 4) (List.take (l.length * 4) R ++ (x.enc ++ D)) = Sh.row (ins l l.length x) := by
   intro D
   obtain ⟨C, rfl⟩ := hR2
   rw [(k7a l l.length C (Nat.le_refl _)).1, z9c, List.take_length, List.drop_length, ← List.append_assoc, List.take_left' (by simp; omega)]
   simp
  repeat' (first 
   | (with_reducible refine And.intro (fun h => ?_) (fun h => ?_)) <;> (try (exfalso; omega))
   | (simp -dsimp -implicitDefEqProofs [*]))
  ·refine q8y (row := R) (by simp) hR1 hc1 hc2 ?_
   repeat' (first 
    | ((with_reducible refine Grow.intro ?_ fun b cap hb hc1 hc2 => ?_); omega) <;> (try simp -dsimp -implicitDefEqProofs [*] at hb)
    | (with_reducible refine RetView.fz 4 ?_ ?_)
    | (with_reducible refine RetView.same ?_)
    | (simp -dsimp -implicitDefEqProofs [*]))
   simp_all [j6p, q9r]
  ·refine q8y (row := R) (by simp) hR1 hc1 hc2 ?_
   repeat' (first 
    | ((with_reducible refine Grow.intro ?_ fun b cap hb hc1 hc2 => ?_); omega) <;> (try simp -dsimp -implicitDefEqProofs [*] at hb)
    | (with_reducible refine RetView.fz 4 ?_ ?_)
    | (with_reducible refine RetView.same ?_)
    | (simp -dsimp -implicitDefEqProofs [*]))
   simp_all [j6p, q9r]
open Go.Pv
set_option maxRecDepth 100000
set_option maxHeartbeats 8000000
theorem j6q (x : Sh) (st : q5d) : PCalls P F.q0f [.list true [] 0, .int (0 : Nat), .list true x.enc 1] st (j6p [] 0 x st) := by
 refine H.q0f.view q5n rfl rfl ?_
 repeat' (first 
  | ((with_reducible refine Grow.intro ?_ fun b cap hb hc1 hc2 => ?_); omega) <;> (try simp -dsimp -implicitDefEqProofs [*] at hb)
  | (with_reducible refine RetView.fz 4 ?_ ?_)
  | (with_reducible refine RetView.same ?_)
  | (simp -dsimp -implicitDefEqProofs [*]))
 refine ⟨?_, rfl⟩
 simp [ins]
section
variable (g h : FuncId) (d : Sh → Int) (sm : Sh → Bool) (l : List Sh) (x : Sh) (hl : l.length ≤ 1000) (hm : FallsS d l) (hg : ∀ y ∈ l, ∀ st, Rets P g [y.pv, x.pv] st (.int (d y))) (hh : ∀ y ∈ l, ∀ st, Rets P h [y.pv, x.pv] st (.bool (sm y)))
include hl hm hg hh
theorem y0j (M : List Sh) (hM : k9y d sm l x = some M) (st : q5d) : Rets P F.q1a [Sh.lst false l, x.pv, .func (.func g) [] [], .func (.func h) [] []] st (Sh.lst false M) := by
 have cs := fun st => k7z g d x false l (by omega) hm.weak st (fun y hy st _ => hg y hy st)
 have hp := z3t (d := d) (l := l)
 have hq := k48 (d := d) (l := l)
 unfold k9y at hM
 generalize k8n d l = w at *
 generalize k0m d l = i at *
 refine H.q1a.view q5n rfl rfl ?_
 cases w with
 | true =>
  rw [if_pos rfl] at hM
  have hil := hq rfl
  have hc := hh l[i] (List.getElem_mem hil)
  rw [List.getElem?_eq_getElem hil] at hM
  simp only at hM
  have s0 := Sh.row_sub l i hil
  have hk : i * 4 < l.length * 4 := by omega
  obtain ⟨y, hy⟩ : ∃ y, y = l[i] := ⟨_, rfl⟩
  rw [← hy] at hM hc s0
  cases hv : sm y with
  | false => rw [hv] at hM; simp at hM
  | true =>
   rw [hv] at hM hc
   simp only [if_true, Option.some.injEq] at hM
   subst hM
   clear hv hy hq hg hh hm
   repeat' (first 
    | (with_reducible refine Fresh.intro fun b hb => ?_) <;> (try simp -dsimp -implicitDefEqProofs [*] at hb)
    | (with_reducible refine Rets.xcall (cs _) ?_)
    | (with_reducible refine Rets.xcall (hc _) ?_)
    | (with_reducible refine Rets.xcall (q6n _ _) ?_)
    | (simp -dsimp -implicitDefEqProofs [*]))
   exact RetView.drop (st' := st) q5q ⟨rfl, rfl⟩
 | false =>
  rw [if_neg (by simp)] at hM
  simp only [Option.some.injEq] at hM
  clear hq hg hh hm
  repeat' (first 
   | (with_reducible refine Fresh.intro fun b hb => ?_) <;> (try simp -dsimp -implicitDefEqProofs [*] at hb)
   | (with_reducible refine Rets.xcall (cs _) ?_)
   | (with_reducible refine DrawLate.intro [] ?_)
   | (simp -dsimp -implicitDefEqProofs [*]))
  revert b; intro q hq
  refine q50 (j02 false l (by omega) _) fun e s hs => ?_
  rcases hs with ⟨rfl, rfl, rfl⟩ | ⟨b2, cap, hb2, hc1, hc2, rfl, rfl⟩
  ·have hi0 : i = 0 := by simpa using hp
   subst hi0
   repeat' (simp -dsimp -implicitDefEqProofs [*])
   refine q50 (j6q x _) fun e s hs => ?_
   obtain ⟨rfl, rfl⟩ := hs
   rw [hM]
   repeat' (simp -dsimp -implicitDefEqProofs [*])
   exact RetView.drop (st' := st) q5q ⟨rfl, rfl⟩
  ·simp -dsimp -implicitDefEqProofs [*] at hb2
   repeat' (simp -dsimp -implicitDefEqProofs [*])
   unfold y47
   refine q50 (z7q l (by omega) i hp x b2 cap hc1 hc2 (Sh.row l ++ List.replicate ((cap - l.length) * 4) .any) (by simp; omega) ⟨_, rfl⟩ ((q, .arr T.apiKeyShare x.enc) :: st) (by simp [*])) fun e s hs => ?_
   obtain ⟨rfl, rfl⟩ := hs
   rw [hM]
   repeat' (simp -dsimp -implicitDefEqProofs [*])
   exact RetView.drop (st' := st) q5q ⟨rfl, rfl⟩
theorem y0k (hM : k9y d sm l x = none) (st : q5d) : Panics P F.q1a [Sh.lst false l, x.pv, .func (.func g) [] [], .func (.func h) [] []] st (.iface T.openingstop (.agg [.int 141])) := by
 have cs := fun st => k7z g d x false l (by omega) hm.weak st (fun y hy st _ => hg y hy st)
 have hq := k48 (d := d) (l := l)
 unfold k9y at hM
 generalize k8n d l = w at *
 generalize k0m d l = i at *
 cases w with
 | false => simp at hM
 | true =>
  rw [if_pos rfl] at hM
  have hil := hq rfl
  have hc := hh l[i] (List.getElem_mem hil)
  rw [List.getElem?_eq_getElem hil] at hM
  simp only at hM
  have s0 := Sh.row_sub l i hil
  have hk : i * 4 < l.length * 4 := by omega
  obtain ⟨y, hy⟩ : ∃ y, y = l[i] := ⟨_, rfl⟩
  rw [← hy] at hM hc s0
  cases hv : sm y with
  | true => rw [hv] at hM; simp at hM
  | false =>
   rw [hv] at hc
   clear hv hy hq hg hh hm hM
   refine H.q1a.panics q5n rfl rfl ?_
   repeat' (first 
    | (with_reducible refine Fresh.intro fun b hb => ?_) <;> (try simp -dsimp -implicitDefEqProofs [*] at hb)
    | (with_reducible refine Rets.xcall (cs _) ?_)
    | (with_reducible refine Rets.xcall (hc _) ?_)
    | (with_reducible refine Panics.xcall (q8i _ _) ?_)
    | (simp -dsimp -implicitDefEqProofs [*]))
end
open Go.Pv
set_option maxRecDepth 100000
set_option maxHeartbeats 4000000
theorem k70 (g : FuncId) (c : Shn → Int) (y : Shn) (t : Bool) (l : List Shn) (hl : l.length ≤ 1024) (hm : Falls c l) (st : q5d) (hg : ∀ x ∈ l, ∀ st', StLe st st' → Rets P g [x.pv, y.pv] st' (.int (c x))) : Rets P F.q0e [Shn.lst t l, y.pv, .func (.func g) [] []] st (.tuple [.int (k0m c l), .bool (k8n c l)]) := by
 refine H.q0e.view q5n rfl rfl ?_
 repeat' (first 
  | (with_reducible refine Fresh.intro fun b hb => ?_) <;> (try simp -dsimp -implicitDefEqProofs [*] at hb)
  | (simp -dsimp -implicitDefEqProofs [*]))
 revert b; intro q hq
 refine q5g (fun x : Nat × Nat => [(0, Shn.lst t l), (4, .ptr q 0), (2, .func (.func g) [] []), (8, .int l.length), (9, .int (x.1 : Nat)), (10, .int (x.2 : Nat))]) (fun _ => (q, .arr T.apiShown y.enc) :: st)
  (fun x => x.1 ≤ x.2 ∧ x.2 ≤ l.length ∧ Hid ((∀ k, k < x.1 → ∀ h : k < l.length, c l[k] < 0) ∧ (∀ k, x.2 ≤ k → ∀ h : k < l.length, 0 ≤ c l[k]))) (fun x => x.2 - x.1) (0, l.length) ⟨Nat.zero_le _, Nat.le_refl _, ⟨fun k h => absurd h (by simp), fun k h1 h2 => absurd h1 (by simp only; omega)⟩⟩ (by simp) (.refl _) ?_
 rintro ⟨i, j⟩ ⟨h1, h2, h3⟩
 replace h1 : i ≤ j := h1
 replace h2 : j ≤ l.length := h2
 replace h3 : Hid ((∀ k, k < i → ∀ h : k < l.length, c l[k] < 0) ∧ (∀ k, j ≤ k → ∀ h : k < l.length, 0 ≤ c l[k])) := h3
 by_cases hij : i < j
 ·have hm1 : IntKind.i64.wrap ((i : Int) + j) = (i : Int) + j := q5m (by omega) (by omega)
  have hm2 : IntKind.u64.wrap ((i : Int) + j) = (i : Int) + j := q70 (by omega) (by omega)
  have hm3 := z40 (i := i) (j := j) (by omega)
  obtain ⟨m, hmd⟩ : ∃ m, m = (i + j) / 2 := ⟨_, rfl⟩
  rw [← hmd] at hm3
  have hm4 := q5h (n := m) (by omega)
  have him : i ≤ m ∧ m < j := by omega
  have hml : m < l.length := by omega
  have s0 := Shn.row_sub l m hml
  have hk : m * 34 < l.length * 34 := by omega
  have hc := hg l[m] (List.getElem_mem hml) ((q, .arr T.apiShown y.enc) :: st) (.fresh hq)
  have f1 : Hid (c l[m] < 0 → (∀ k, k < m + 1 → ∀ h : k < l.length, c l[k] < 0) ∧ (∀ k, j ≤ k → ∀ h : k < l.length, 0 ≤ c l[k])) := ⟨fun hn => ⟨fun k hk h => if e : k = m then by subst e; exact hn else hm.out k m (by omega) hml hn (h' := h), h3.out.2⟩⟩
  have f2 : Hid (0 ≤ c l[m] → (∀ k, k < i → ∀ h : k < l.length, c l[k] < 0) ∧ (∀ k, m ≤ k → ∀ h : k < l.length, 0 ≤ c l[k])) := ⟨fun hp => ⟨h3.out.1, fun k hk h => Int.not_lt.1 fun hn => by
   by_cases e : k = m
   ·subst e; omega
   ·have := hm.out m k (by omega) h hn (h' := hml); omega⟩⟩
  obtain ⟨x, hx⟩ : ∃ x, x = l[m] := ⟨_, rfl⟩
  rw [← hx] at s0 hc f1 f2
  obtain ⟨v, hv⟩ : ∃ v, v = c x := ⟨_, rfl⟩
  rw [← hv] at hc f1 f2
  clear hmd hx hv h3 hg hm
  by_cases hv0 : v < 0
  ·have h5 := Hid.mk (f1.out hv0)
   clear f1 f2
   repeat' (first 
    | (with_reducible refine Rets.xcall (hc) ?_)
    | (with_reducible refine DrawLate.intro [] ?_)
    | (simp -dsimp -implicitDefEqProofs [*]))
   exact Next.intro (m + 1, j) ⟨by simp only; omega, h2, h5⟩ (by simp only; omega) (by simp) q5q
  ·have hv1 : 0 ≤ v := by omega
   have h5 := Hid.mk (f2.out hv1)
   clear f1 f2
   repeat' (first 
    | (with_reducible refine Rets.xcall (hc) ?_)
    | (with_reducible refine DrawLate.intro [] ?_)
    | (simp -dsimp -implicitDefEqProofs [*]))
   exact Next.intro (i, m) ⟨by simp only; omega, by simp only; omega, h5⟩ (by simp only; omega) (by simp) q5q
 ·obtain rfl : j = i := by omega
  obtain ⟨e1, e2⟩ := k15 h2 h3.out.1 h3.out.2
  rw [← e1, e2]
  have kl : (j : Int) < l.length ↔ j < l.length := by omega
  clear h3
  by_cases hjl : j < l.length
  ·have s0 := Shn.row_sub l j hjl
   have hk : j * 34 < l.length * 34 := by omega
   have hc := hg l[j] (List.getElem_mem hjl) ((q, .arr T.apiShown y.enc) :: st) (.fresh hq)
   have hjl2 : (j : Int) < l.length := by omega
   rw [dif_pos hjl]
   obtain ⟨x, hx⟩ : ∃ x, x = l[j] := ⟨_, rfl⟩
   rw [← hx] at s0 hc ⊢
   obtain ⟨v, hv⟩ : ∃ v, v = c x := ⟨_, rfl⟩
   rw [← hv] at hc ⊢
   clear hx hv hg hm e1 e2 kl
   repeat' (first 
    | (with_reducible refine Rets.xcall (hc) ?_)
    | (with_reducible refine DrawLate.intro [] ?_)
    | (simp -dsimp -implicitDefEqProofs [*]))
   exact RetView.drop (st' := st) q5q ⟨rfl, rfl⟩
  ·have hjl2 : ¬ (j : Int) < l.length := by omega
   rw [dif_neg hjl]
   clear hg hm e1 e2 kl
   repeat' (first 
    | (with_reducible refine DrawLate.intro [] ?_)
    | (simp -dsimp -implicitDefEqProofs [*]))
   exact RetView.drop (st' := st) q5q ⟨rfl, rfl⟩
open Go.Pv
set_option maxRecDepth 100000
set_option maxHeartbeats 8000000
def y48 (l : List Shn) (cap : Nat) : PObj := .arr T.apiShown (Shn.row l ++ List.replicate ((cap - l.length) * 34) .any)
def y0l (l : List Shn) (st : q5d) (e : PEnd) (s : q5d) : Prop :=
 l = [] ∧ e = .ret (.list true [] 0) ∧ s = st ∨ ∃ b cap, q6u st b ∧ l.length ≤ cap ∧ cap ≤ 9223372036854775807 ∧ e = .ret (.own b 0 l.length cap) ∧ s = (b, y48 l cap) :: st
theorem j03 (t : Bool) (l : List Shn) (hl : l.length ≤ 1024) (st : q5d) : PCalls P F.q08 [Shn.lst t l] st (y0l l st) := by
 refine H.q08.view q5n rfl rfl ?_
 repeat' (first 
  | (with_reducible refine Lit.imm ?_)
  | ((with_reducible refine Grow.intro ?_ fun b cap hb hc1 hc2 => ?_); omega) <;> (try simp -dsimp -implicitDefEqProofs [*] at hb)
  | (with_reducible refine And.intro (fun h => ?_) (fun h => ?_)) <;> (try (exfalso; omega))
  | (with_reducible refine And.intro (fun h => ?_) ?_) <;> (try (exfalso; omega))
  | (simp -dsimp -implicitDefEqProofs [*]))
 ·exact .sees (.nil _) (.same (.inl ⟨rfl, rfl, rfl⟩))
 ·exact .same (.inl ⟨rfl, rfl, rfl⟩)
 ·exact .same (.inr ⟨_, _, hb, hc1, hc2, rfl, rfl⟩)
theorem z0y (x : Shn) (b off n' cap : Nat) (row : List PV) (st : q5d) (hg : q5w st b = some (.arr T.apiShown row)) : Rets P F.q43 [.list true x.enc 1, .own b off n' cap] st (.bool false) :=
 k3i (tR := T.bool) (k := 34) (ag := true) Tryz.func167 (by kernel_rfl) (by kernel_rfl) (by kernel_rfl) (by kernel_rfl) Tryz.underlying25 (by kernel_rfl) (by omega) (by simp) hg
def j6r (l : List Shn) (i : Nat) (x : Shn) (st : q5d) (e : PEnd) (s : q5d) : Prop := e = .ret (Shn.lst false (ins l i x)) ∧ s = st
theorem z9d (l : List Shn) (i : Nat) (x : Shn) : Shn.row (ins l i x) = Shn.row (l.take i) ++ x.enc ++ Shn.row (l.drop i) := by
 simp [ins, Shn.row_append]
theorem z15 (l : List Shn) (i : Nat) (x : Shn) (hi : i ≤ l.length) (Y : List PV) (hY : 34 + (l.length - i) * 34 ≤ Y.length) :
  (q5i (q5i (Shn.row (l.take i) ++ Y) ((i + 1) * 34) (Shn.row (l.drop i))) (i * 34) x.enc).take ((l.length + 1) * 34) = Shn.row (ins l i x) ∧
  (q5i (q5i (Shn.row (l.take i) ++ Y) (i * 34) x.enc) ((i + 1) * 34) (Shn.row (l.drop i))).take ((l.length + 1) * 34) = Shn.row (ins l i x) := by
 have h1 : (Shn.row (l.take i)).length = i * 34 := by simp; omega
 have h2 : (Shn.row (l.drop i)).length = (l.length - i) * 34 := by simp
 have h3 : x.enc.length = 34 := x.len
 have := k3h (Shn.row (l.take i)) Y x.enc (Shn.row (l.drop i)) (by omega)
 rw [h1, h2, h3, show i * 34 + 34 = (i + 1) * 34 by omega, show (i + 1) * 34 + (l.length - i) * 34 = (l.length + 1) * 34 by omega] at this
 rw [z9d]
 exact this
theorem k7b (l : List Shn) (i : Nat) (C : List PV) (h : i ≤ l.length) : (Shn.row l ++ C).take (i * 34) = Shn.row (l.take i) ∧ ((Shn.row l ++ C).drop (i * 34)).take ((l.length - i) * 34) = Shn.row (l.drop i) := by
 have h1 : (Shn.row (l.take i)).length = i * 34 := by simp; omega
 have h2 : (Shn.row (l.drop i)).length = (l.length - i) * 34 := by simp
 have e : Shn.row l = Shn.row (l.take i) ++ Shn.row (l.drop i) := by rw [← Shn.row_append, List.take_append_drop]
 rw [e, List.append_assoc]
 exact ⟨List.take_left' h1, by rw [List.drop_left' h1, List.take_left' h2]⟩
theorem z7r (l : List Shn) (hl : l.length ≤ 1024) (i : Nat) (hi : i ≤ l.length) (x : Shn) (b cap : Nat) (hc1 : l.length ≤ cap) (hc2 : cap ≤ 9223372036854775807) (R : List PV) (hR1 : R.length = cap * 34) (hR2 : ∃ C, R = Shn.row l ++ C)
  (st : q5d) (hb : q6u st b) :
  PCalls P F.q0l [.own b 0 l.length cap, .int i, .list true x.enc 1] ((b, .arr T.apiShown R) :: st) (j6r l i x st) := by
 have hw : IntKind.i64.wrap ((l.length : Int) + 1) = (l.length : Int) + 1 := q5h (by omega)
 have hw2 : IntKind.i64.wrap ((l.length : Int) + 1 - i) = (l.length : Int) + 1 - i := q5m (by omega) (by omega)
 have hw3 : IntKind.i64.wrap ((i : Int) + 1) = (i : Int) + 1 := q5h (by omega)
 have ht1 : ((l.length : Int) + 1 - i).toNat = l.length + 1 - i := by omega
 have ht2 : ((i : Int) + 1).toNat = i + 1 := by omega
 have ht3 : ((l.length : Int) + 1).toNat = l.length + 1 := by omega
 have ht4 : i + (l.length + 1 - i) = l.length + 1 := by omega
 have hm1 : min (l.length + 1 - i) (l.length - i) = l.length - i := by omega
 have hm2 : min 1 (l.length + 1 - i) = 1 := by omega
 refine H.q0l.view q5n rfl rfl ?_
 rcases Nat.lt_or_ge i l.length with hil | hil
 ·have hm3 : min (l.length - i) (l.length - i) = l.length - i := by omega
  rcases Nat.lt_or_ge cap (l.length + 1) with hcap | hcap
  ·have hq1 : i * 34 + (l.length - i) * 34 ≤ cap * 34 := by omega
   repeat' (first 
    | (with_reducible refine And.intro (fun h => ?_) (fun h => ?_)) <;> (try (exfalso; omega))
    | ((with_reducible refine q51 ?_ fun hk => ?_); omega)
    | (simp -dsimp -implicitDefEqProofs [*]))
   refine k3g (row := R) (by simp) (by simp [hR1]) (by omega) hc2 (by omega) (fun h => absurd h (by omega)) fun _ => ?_
   have hq4 : (i + 1) * 34 + (l.length - i) * 34 ≤ i * 34 + ((l.length + 1 - i) * 34 + (cap - (l.length + 1)) * 34) := by omega
   have hq5 : i * 34 + 34 ≤ i * 34 + ((l.length + 1 - i) * 34 + (cap - (l.length + 1)) * 34) := by omega
   have hq6 : min (i * 34) (cap * 34) = i * 34 := by omega
   repeat' (first 
    | ((with_reducible refine Grow.intro ?_ fun b cap hb hc1 hc2 => ?_); omega) <;> (try simp -dsimp -implicitDefEqProofs [*] at hb)
    | (with_reducible refine RetView.fz 34 ?_ ?_)
    | (with_reducible refine RetView.same ?_)
    | (with_reducible refine And.intro (fun h => ?_) (fun h => ?_)) <;> (try (exfalso; omega))
    | (with_reducible refine And.intro (fun h => ?_) ?_) <;> (try (exfalso; omega))
    | ((with_reducible refine q51 ?_ fun hk => ?_); omega)
    | (simp -dsimp -implicitDefEqProofs [*]))
   refine ⟨?_, rfl⟩
   obtain ⟨C, rfl⟩ := hR2
   have h1 := k7b l i C hi
   have h2 : List.take 34 x.enc = x.enc := List.take_of_length_le (by simp)
   rw [List.take_take, Nat.min_self, h1.1, h1.2, h2, (z15 l i x hi _ (by simp; omega)).2]
   simp [q9r, hi]
  ·have hq1 : i * 34 + (l.length + 1 - i) * 34 ≤ cap * 34 := by omega
   have hq2 : (i + 1) * 34 + (l.length - i) * 34 ≤ cap * 34 := by omega
   have hq3 : i * 34 + 34 ≤ cap * 34 := by omega
   repeat' (first 
    | (with_reducible refine Rets.xcall (z0y _ _ _ _ _ R _ (by simp)) ?_)
    | (with_reducible refine RetView.fz 34 ?_ ?_)
    | (with_reducible refine RetView.same ?_)
    | (with_reducible refine And.intro (fun h => ?_) (fun h => ?_)) <;> (try (exfalso; omega))
    | (with_reducible refine And.intro (fun h => ?_) ?_) <;> (try (exfalso; omega))
    | ((with_reducible refine q51 ?_ fun hk => ?_); omega)
    | (simp -dsimp -implicitDefEqProofs [*]))
   refine ⟨?_, rfl⟩
   obtain ⟨C, rfl⟩ := hR2
   have h1 := k7b l i C hi
   have h2 : List.take 34 x.enc = x.enc := List.take_of_length_le (by simp)
   have e : Shn.row l = Shn.row (l.take i) ++ Shn.row (l.drop i) := by rw [← Shn.row_append, List.take_append_drop]
   have h3 : (l.length - i) * 34 ≤ (l.length + 1 - i) * 34 := by omega
   rw [List.take_take, Nat.min_eq_left h3, h1.2, h2, e, List.append_assoc]
   rw [e, List.append_assoc] at hR1
   have h4 : (Shn.row (List.take i l)).length = i * 34 := by simp; omega
   rw [List.length_append, h4] at hR1
   rw [(z15 l i x hi _ (by omega)).1]
   simp [q9r, hi]
 ·obtain rfl : i = l.length := by omega
  have hfin : ∀ D, List.take ((l.length + 1) * 34) (List.take (l.length * 34) R ++ (x.enc ++ D)) = Shn.row (ins l l.length x) := by
   intro D
   obtain ⟨C, rfl⟩ := hR2
   rw [(k7b l l.length C (Nat.le_refl _)).1, z9d, List.take_length, List.drop_length, ← List.append_assoc, List.take_left' (by simp; omega)]
   simp
  repeat' (first 
   | (with_reducible refine And.intro (fun h => ?_) (fun h => ?_)) <;> (try (exfalso; omega))
   | (simp -dsimp -implicitDefEqProofs [*]))
  ·refine q8y (row := R) (by simp) hR1 hc1 hc2 ?_
   repeat' (first 
    | ((with_reducible refine Grow.intro ?_ fun b cap hb hc1 hc2 => ?_); omega) <;> (try simp -dsimp -implicitDefEqProofs [*] at hb)
    | (with_reducible refine RetView.fz 34 ?_ ?_)
    | (with_reducible refine RetView.same ?_)
    | (simp -dsimp -implicitDefEqProofs [*]))
   simp_all [j6r, q9r]
  ·refine q8y (row := R) (by simp) hR1 hc1 hc2 ?_
   repeat' (first 
    | ((with_reducible refine Grow.intro ?_ fun b cap hb hc1 hc2 => ?_); omega) <;> (try simp -dsimp -implicitDefEqProofs [*] at hb)
    | (with_reducible refine RetView.fz 34 ?_ ?_)
    | (with_reducible refine RetView.same ?_)
    | (simp -dsimp -implicitDefEqProofs [*]))
   simp_all [j6r, q9r]
open Go.Pv
set_option maxRecDepth 100000
set_option maxHeartbeats 8000000
theorem j6s (x : Shn) (st : q5d) : PCalls P F.q0l [.list true [] 0, .int (0 : Nat), .list true x.enc 1] st (j6r [] 0 x st) := by
 refine H.q0l.view q5n rfl rfl ?_
 repeat' (first 
  | ((with_reducible refine Grow.intro ?_ fun b cap hb hc1 hc2 => ?_); omega) <;> (try simp -dsimp -implicitDefEqProofs [*] at hb)
  | (with_reducible refine RetView.fz 34 ?_ ?_)
  | (with_reducible refine RetView.same ?_)
  | (simp -dsimp -implicitDefEqProofs [*]))
 refine ⟨?_, rfl⟩
 simp [ins]
section
variable (g h : FuncId) (d : Shn → Int) (sm : Shn → Bool) (l : List Shn) (x : Shn) (hl : l.length ≤ 1000) (hm : FallsS d l) (hg : ∀ y ∈ l, ∀ st, Rets P g [y.pv, x.pv] st (.int (d y))) (hh : ∀ y ∈ l, ∀ st, Rets P h [y.pv, x.pv] st (.bool (sm y)))
include hl hm hg hh
theorem y0m (M : List Shn) (hM : k9y d sm l x = some M) (st : q5d) : Rets P F.q1t [Shn.lst false l, x.pv, .func (.func g) [] [], .func (.func h) [] []] st (Shn.lst false M) := by
 have cs := fun st => k70 g d x false l (by omega) hm.weak st (fun y hy st _ => hg y hy st)
 have hp := z3t (d := d) (l := l)
 have hq := k48 (d := d) (l := l)
 unfold k9y at hM
 generalize k8n d l = w at *
 generalize k0m d l = i at *
 refine H.q1t.view q5n rfl rfl ?_
 cases w with
 | true =>
  rw [if_pos rfl] at hM
  have hil := hq rfl
  have hc := hh l[i] (List.getElem_mem hil)
  rw [List.getElem?_eq_getElem hil] at hM
  simp only at hM
  have s0 := Shn.row_sub l i hil
  have hk : i * 34 < l.length * 34 := by omega
  obtain ⟨y, hy⟩ : ∃ y, y = l[i] := ⟨_, rfl⟩
  rw [← hy] at hM hc s0
  cases hv : sm y with
  | false => rw [hv] at hM; simp at hM
  | true =>
   rw [hv] at hM hc
   simp only [if_true, Option.some.injEq] at hM
   subst hM
   clear hv hy hq hg hh hm
   repeat' (first 
    | (with_reducible refine Fresh.intro fun b hb => ?_) <;> (try simp -dsimp -implicitDefEqProofs [*] at hb)
    | (with_reducible refine Rets.xcall (cs _) ?_)
    | (with_reducible refine Rets.xcall (hc _) ?_)
    | (with_reducible refine Rets.xcall (q6n _ _) ?_)
    | (simp -dsimp -implicitDefEqProofs [*]))
   exact RetView.drop (st' := st) q5q ⟨rfl, rfl⟩
 | false =>
  rw [if_neg (by simp)] at hM
  simp only [Option.some.injEq] at hM
  clear hq hg hh hm
  repeat' (first 
   | (with_reducible refine Fresh.intro fun b hb => ?_) <;> (try simp -dsimp -implicitDefEqProofs [*] at hb)
   | (with_reducible refine Rets.xcall (cs _) ?_)
   | (with_reducible refine DrawLate.intro [] ?_)
   | (simp -dsimp -implicitDefEqProofs [*]))
  revert b; intro q hq
  refine q50 (j03 false l (by omega) _) fun e s hs => ?_
  rcases hs with ⟨rfl, rfl, rfl⟩ | ⟨b2, cap, hb2, hc1, hc2, rfl, rfl⟩
  ·have hi0 : i = 0 := by simpa using hp
   subst hi0
   repeat' (simp -dsimp -implicitDefEqProofs [*])
   refine q50 (j6s x _) fun e s hs => ?_
   obtain ⟨rfl, rfl⟩ := hs
   rw [hM]
   repeat' (simp -dsimp -implicitDefEqProofs [*])
   exact RetView.drop (st' := st) q5q ⟨rfl, rfl⟩
  ·simp -dsimp -implicitDefEqProofs [*] at hb2
   repeat' (simp -dsimp -implicitDefEqProofs [*])
   unfold y48
   refine q50 (z7r l (by omega) i hp x b2 cap hc1 hc2 (Shn.row l ++ List.replicate ((cap - l.length) * 34) .any) (by simp; omega) ⟨_, rfl⟩ ((q, .arr T.apiShown x.enc) :: st) (by simp [*])) fun e s hs => ?_
   obtain ⟨rfl, rfl⟩ := hs
   rw [hM]
   repeat' (simp -dsimp -implicitDefEqProofs [*])
   exact RetView.drop (st' := st) q5q ⟨rfl, rfl⟩
theorem y0n (hM : k9y d sm l x = none) (st : q5d) : Panics P F.q1t [Shn.lst false l, x.pv, .func (.func g) [] [], .func (.func h) [] []] st (.iface T.openingstop (.agg [.int 141])) := by
 have cs := fun st => k70 g d x false l (by omega) hm.weak st (fun y hy st _ => hg y hy st)
 have hq := k48 (d := d) (l := l)
 unfold k9y at hM
 generalize k8n d l = w at *
 generalize k0m d l = i at *
 cases w with
 | false => simp at hM
 | true =>
  rw [if_pos rfl] at hM
  have hil := hq rfl
  have hc := hh l[i] (List.getElem_mem hil)
  rw [List.getElem?_eq_getElem hil] at hM
  simp only at hM
  have s0 := Shn.row_sub l i hil
  have hk : i * 34 < l.length * 34 := by omega
  obtain ⟨y, hy⟩ : ∃ y, y = l[i] := ⟨_, rfl⟩
  rw [← hy] at hM hc s0
  cases hv : sm y with
  | true => rw [hv] at hM; simp at hM
  | false =>
   rw [hv] at hc
   clear hv hy hq hg hh hm hM
   refine H.q1t.panics q5n rfl rfl ?_
   repeat' (first 
    | (with_reducible refine Fresh.intro fun b hb => ?_) <;> (try simp -dsimp -implicitDefEqProofs [*] at hb)
    | (with_reducible refine Rets.xcall (cs _) ?_)
    | (with_reducible refine Rets.xcall (hc _) ?_)
    | (with_reducible refine Panics.xcall (q8i _ _) ?_)
    | (simp -dsimp -implicitDefEqProofs [*]))
end
end Go.Proofs.YtnooplpbpfiapaaGreatDoor
