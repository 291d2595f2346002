/- Sessions by the program: Check, Gate, New. -/
import Derived.Test.YtnooplpbpfiapaaGreatDoorG36G
import Derived.Test.YtnooplpbpfiapaaGreatDoorLNt
import Derived.Test.YtnooplpbpfiapaaGreatDoorG36A
import Derived.Test.YtnooplpbpfiapaaGreatDoorG36P
namespace Go.Proofs.YtnooplpbpfiapaaGreatDoor
open Go.Pv
set_option maxRecDepth 100000
set_option maxHeartbeats 8000000
theorem k04 (s : Ses) (hL : s.Len) (st : q5d) (hG : GL st) : Rets P F.q12 [s.pv] st (.int (if q67 s = true then 0 else 360)) := by
 have hN := q6k hG.h0 hG.h1
 have h0 := hG.h0
 have h1 := hG.h1
 have c := fun st h0 h1 => k90 s hL st ⟨h0, h1⟩
 clear hG hL
 generalize q67 s = W at *
 cases W with
 | false =>
  rw [if_neg (by simp)]
  refine H.q12.pure q5n rfl rfl ?_
  repeat' (first 
   | (with_reducible refine Fresh.intro fun b hb => ?_) <;> (try simp -dsimp -implicitDefEqProofs [*] at hb)
   | (with_reducible refine Rets.xcall (c _ (by simp [*]) (by simp [*])) ?_)
   | (simp -dsimp -implicitDefEqProofs [*]))
 | true =>
  rw [if_pos rfl]
  refine H.q12.pure q5n rfl rfl ?_
  repeat' (first 
   | (with_reducible refine Fresh.intro fun b hb => ?_) <;> (try simp -dsimp -implicitDefEqProofs [*] at hb)
   | (with_reducible refine Rets.xcall (c _ (by simp [*]) (by simp [*])) ?_)
   | (simp -dsimp -implicitDefEqProofs [*]))
theorem j00 (s : Ses) (hL : s.Len) (st : q5d) (hG : GL st) : Rets P F.q4b [s.pv] st (.tuple [.bool (q67 s && q8j s), .int (if q67 s = true then 0 else 360)]) := by
 have hN := q6k hG.h0 hG.h1
 have h0 := hG.h0
 have h1 := hG.h1
 have c := fun st h0 h1 => k04 s hL st ⟨h0, h1⟩
 have co := q8k s
 clear hG hL
 generalize q67 s = W at *
 generalize q8j s = O at *
 cases W with
 | false =>
  simp only [Bool.false_eq_true, if_false, Bool.false_and] at c ⊢
  refine H.q4b.pure q5n rfl rfl ?_
  repeat' (first 
   | (with_reducible refine Fresh.intro fun b hb => ?_) <;> (try simp -dsimp -implicitDefEqProofs [*] at hb)
   | (with_reducible refine Rets.xcall (c _ (by simp [*]) (by simp [*])) ?_)
   | (simp -dsimp -implicitDefEqProofs [*]))
 | true =>
  simp only [if_true, Bool.true_and] at c ⊢
  refine H.q4b.pure q5n rfl rfl ?_
  repeat' (first 
   | (with_reducible refine Fresh.intro fun b hb => ?_) <;> (try simp -dsimp -implicitDefEqProofs [*] at hb)
   | (with_reducible refine Rets.xcall (c _ (by simp [*]) (by simp [*])) ?_)
   | (with_reducible refine Rets.xcall (co _) ?_)
   | (simp -dsimp -implicitDefEqProofs [*]))
def z9a (round entry crits : Int) (judges : List Int) (need deadline : Int) : Ses := ⟨round, entry, crits, judges, need, deadline, 0, [], [], []⟩
def zeroSes : Ses := ⟨0, 0, 0, [], 0, 0, 0, [], [], []⟩
theorem q85 : PLe (.agg [.int 0, .int 0, .int 0, .nil, .int 0, .int 0, .int 0, .nil, .nil, .nil]) zeroSes.pv := PLe.aggs ⟨.refl _, .refl _, .refl _, .nil1, .refl _, .refl _, .refl _, .nil1, .nil1, .nil1, trivial⟩
theorem z5o (round entry crits : Int) (judges : List Int) (need deadline : Int) (hj : judges.length ≤ 100000) (hc : -9223372036854775808 ≤ crits ∧ crits < 9223372036854775808) (hn : -9223372036854775808 ≤ need ∧ need < 9223372036854775808) (st : q5d) (hG : GL st) :
  Rets P F.q39 [.int round, .int entry, .int crits, q5k false judges, .int need, .int deadline] st
   (.tuple [(if q67 (z9a round entry crits judges need deadline) = true then z9a round entry crits judges need deadline else zeroSes).pv, .int (if q67 (z9a round entry crits judges need deadline) = true then 0 else 1)]) := by
 have hN := q6k hG.h0 hG.h1
 have h0 := hG.h0
 have h1 := hG.h1
 have c : ∀ st, q5w st 0 = some (.arr T.t8uint32 Sha.start.row) → q5w st 1 = some q9o → Rets P F.q1m [.agg [.int round, .int entry, .int crits, q5k false judges, .int need, .int deadline, .int 0, .nil, .nil, .nil]] st (.bool (q67 (z9a round entry crits judges need deadline))) := fun st h0 h1 =>
  Rets.args (qs := [(z9a round entry crits judges need deadline).pv]) ⟨PLe.aggs ⟨.refl _, .refl _, .refl _, .refl _, .refl _, .refl _, .refl _, .nil1, .nil1, .nil1, trivial⟩, trivial⟩ (k90 _ ⟨hj, by simp [z9a], by simp [z9a], by simp [z9a], by simp [z9a], by simp [z9a], hc, hn⟩ st ⟨h0, h1⟩)
 obtain ⟨S, hS⟩ : ∃ S, S = z9a round entry crits judges need deadline := ⟨_, rfl⟩
 rw [← hS] at c ⊢
 have hSe : PLe (.agg [.int round, .int entry, .int crits, q5k false judges, .int need, .int deadline, .int 0, .nil, .nil, .nil]) S.pv := by
  rw [hS]
  exact PLe.aggs ⟨.refl _, .refl _, .refl _, .refl _, .refl _, .refl _, .refl _, .nil1, .nil1, .nil1, trivial⟩
 refine H.q39.view q5n rfl rfl ?_
 generalize q67 S = W at *
 cases W with
 | false =>
  repeat' (first 
   | (with_reducible refine Fresh.intro fun b hb => ?_) <;> (try simp -dsimp -implicitDefEqProofs [*] at hb)
   | (with_reducible refine Rets.xcall (c _ (by simp [*]) (by simp [*])) ?_)
   | (simp -dsimp -implicitDefEqProofs [*]))
  exact RetView.le (PLe.tuple2 q85 (.refl _)) (RetView.drop (st' := st) q5q ⟨rfl, rfl⟩)
 | true =>
  repeat' (first 
   | (with_reducible refine Fresh.intro fun b hb => ?_) <;> (try simp -dsimp -implicitDefEqProofs [*] at hb)
   | (with_reducible refine Rets.xcall (c _ (by simp [*]) (by simp [*])) ?_)
   | (simp -dsimp -implicitDefEqProofs [*]))
  exact RetView.le (PLe.tuple2 hSe (.refl _)) (RetView.drop (st' := st) q5q ⟨by rw [← hS], rfl⟩)
open Go.Pv
set_option maxRecDepth 100000
set_option maxHeartbeats 4000000
theorem k7y (g : FuncId) (c : Card → Int) (y : Card) (t : Bool) (l : List Card) (hl : l.length ≤ 1024) (hm : Falls c l) (st : q5d) (hg : ∀ x ∈ l, ∀ st', StLe st st' → Rets P g [x.pv, y.pv] st' (.int (c x))) : Rets P F.q0d [Card.lst t l, y.pv, .func (.func g) [] []] st (.tuple [.int (k0m c l), .bool (k8n c l)]) := by
 refine H.q0d.view q5n rfl rfl ?_
 repeat' (first 
  | (with_reducible refine Fresh.intro fun b hb => ?_) <;> (try simp -dsimp -implicitDefEqProofs [*] at hb)
  | (simp -dsimp -implicitDefEqProofs [*]))
 revert b; intro q hq
 refine q5g (fun x : Nat × Nat => [(0, Card.lst t l), (4, .ptr q 0), (2, .func (.func g) [] []), (8, .int l.length), (9, .int (x.1 : Nat)), (10, .int (x.2 : Nat))]) (fun _ => (q, .arr T.apiSealed y.enc) :: st)
  (fun x => x.1 ≤ x.2 ∧ x.2 ≤ l.length ∧ Hid ((∀ k, k < x.1 → ∀ h : k < l.length, c l[k] < 0) ∧ (∀ k, x.2 ≤ k → ∀ h : k < l.length, 0 ≤ c l[k]))) (fun x => x.2 - x.1) (0, l.length) ⟨Nat.zero_le _, Nat.le_refl _, ⟨fun k h => absurd h (by simp), fun k h1 h2 => absurd h1 (by simp only; omega)⟩⟩ (by simp) (.refl _) ?_
 rintro ⟨i, j⟩ ⟨h1, h2, h3⟩
 replace h1 : i ≤ j := h1
 replace h2 : j ≤ l.length := h2
 replace h3 : Hid ((∀ k, k < i → ∀ h : k < l.length, c l[k] < 0) ∧ (∀ k, j ≤ k → ∀ h : k < l.length, 0 ≤ c l[k])) := h3
 by_cases hij : i < j
 ·have hm1 : IntKind.i64.wrap ((i : Int) + j) = (i : Int) + j := q5m (by omega) (by omega)
  have hm2 : IntKind.u64.wrap ((i : Int) + j) = (i : Int) + j := q70 (by omega) (by omega)
  have hm3 := z40 (i := i) (j := j) (by omega)
  obtain ⟨m, hmd⟩ : ∃ m, m = (i + j) / 2 := ⟨_, rfl⟩
  rw [← hmd] at hm3
  have hm4 := q5h (n := m) (by omega)
  have him : i ≤ m ∧ m < j := by omega
  have hml : m < l.length := by omega
  have s0 := Card.row_sub l m hml
  have hk : m * 36 < l.length * 36 := by omega
  have hc := hg l[m] (List.getElem_mem hml) ((q, .arr T.apiSealed y.enc) :: st) (.fresh hq)
  have f1 : Hid (c l[m] < 0 → (∀ k, k < m + 1 → ∀ h : k < l.length, c l[k] < 0) ∧ (∀ k, j ≤ k → ∀ h : k < l.length, 0 ≤ c l[k])) := ⟨fun hn => ⟨fun k hk h => if e : k = m then by subst e; exact hn else hm.out k m (by omega) hml hn (h' := h), h3.out.2⟩⟩
  have f2 : Hid (0 ≤ c l[m] → (∀ k, k < i → ∀ h : k < l.length, c l[k] < 0) ∧ (∀ k, m ≤ k → ∀ h : k < l.length, 0 ≤ c l[k])) := ⟨fun hp => ⟨h3.out.1, fun k hk h => Int.not_lt.1 fun hn => by
   by_cases e : k = m
   ·subst e; omega
   ·have := hm.out m k (by omega) h hn (h' := hml); omega⟩⟩
  obtain ⟨x, hx⟩ : ∃ x, x = l[m] := ⟨_, rfl⟩
  rw [← hx] at s0 hc f1 f2
  obtain ⟨v, hv⟩ : ∃ v, v = c x := ⟨_, rfl⟩
  rw [← hv] at hc f1 f2
  clear hmd hx hv h3 hg hm
  by_cases hv0 : v < 0
  ·have h5 := Hid.mk (f1.out hv0)
   clear f1 f2
   repeat' (first 
    | (with_reducible refine Rets.xcall (hc) ?_)
    | (with_reducible refine DrawLate.intro [] ?_)
    | (simp -dsimp -implicitDefEqProofs [*]))
   exact Next.intro (m + 1, j) ⟨by simp only; omega, h2, h5⟩ (by simp only; omega) (by simp) q5q
  ·have hv1 : 0 ≤ v := by omega
   have h5 := Hid.mk (f2.out hv1)
   clear f1 f2
   repeat' (first 
    | (with_reducible refine Rets.xcall (hc) ?_)
    | (with_reducible refine DrawLate.intro [] ?_)
    | (simp -dsimp -implicitDefEqProofs [*]))
   exact Next.intro (i, m) ⟨by simp only; omega, by simp only; omega, h5⟩ (by simp only; omega) (by simp) q5q
 ·obtain rfl : j = i := by omega
  obtain ⟨e1, e2⟩ := k15 h2 h3.out.1 h3.out.2
  rw [← e1, e2]
  have kl : (j : Int) < l.length ↔ j < l.length := by omega
  clear h3
  by_cases hjl : j < l.length
  ·have s0 := Card.row_sub l j hjl
   have hk : j * 36 < l.length * 36 := by omega
   have hc := hg l[j] (List.getElem_mem hjl) ((q, .arr T.apiSealed y.enc) :: st) (.fresh hq)
   have hjl2 : (j : Int) < l.length := by omega
   rw [dif_pos hjl]
   obtain ⟨x, hx⟩ : ∃ x, x = l[j] := ⟨_, rfl⟩
   rw [← hx] at s0 hc ⊢
   obtain ⟨v, hv⟩ : ∃ v, v = c x := ⟨_, rfl⟩
   rw [← hv] at hc ⊢
   clear hx hv hg hm e1 e2 kl
   repeat' (first 
    | (with_reducible refine Rets.xcall (hc) ?_)
    | (with_reducible refine DrawLate.intro [] ?_)
    | (simp -dsimp -implicitDefEqProofs [*]))
   exact RetView.drop (st' := st) q5q ⟨rfl, rfl⟩
  ·have hjl2 : ¬ (j : Int) < l.length := by omega
   rw [dif_neg hjl]
   clear hg hm e1 e2 kl
   repeat' (first 
    | (with_reducible refine DrawLate.intro [] ?_)
    | (simp -dsimp -implicitDefEqProofs [*]))
   exact RetView.drop (st' := st) q5q ⟨rfl, rfl⟩
open Go.Pv
set_option maxRecDepth 100000
set_option maxHeartbeats 8000000
def y46 (l : List Card) (cap : Nat) : PObj := .arr T.apiSealed (Card.row l ++ List.replicate ((cap - l.length) * 36) .any)
def y0f (l : List Card) (st : q5d) (e : PEnd) (s : q5d) : Prop :=
 l = [] ∧ e = .ret (.list true [] 0) ∧ s = st ∨ ∃ b cap, q6u st b ∧ l.length ≤ cap ∧ cap ≤ 9223372036854775807 ∧ e = .ret (.own b 0 l.length cap) ∧ s = (b, y46 l cap) :: st
theorem j01 (t : Bool) (l : List Card) (hl : l.length ≤ 1024) (st : q5d) : PCalls P F.q02 [Card.lst t l] st (y0f l st) := by
 refine H.q02.view q5n rfl rfl ?_
 repeat' (first 
  | (with_reducible refine Lit.imm ?_)
  | ((with_reducible refine Grow.intro ?_ fun b cap hb hc1 hc2 => ?_); omega) <;> (try simp -dsimp -implicitDefEqProofs [*] at hb)
  | (with_reducible refine And.intro (fun h => ?_) (fun h => ?_)) <;> (try (exfalso; omega))
  | (with_reducible refine And.intro (fun h => ?_) ?_) <;> (try (exfalso; omega))
  | (simp -dsimp -implicitDefEqProofs [*]))
 ·exact .sees (.nil _) (.same (.inl ⟨rfl, rfl, rfl⟩))
 ·exact .same (.inl ⟨rfl, rfl, rfl⟩)
 ·exact .same (.inr ⟨_, _, hb, hc1, hc2, rfl, rfl⟩)
theorem z0w (x : Card) (b off n' cap : Nat) (row : List PV) (st : q5d) (hg : q5w st b = some (.arr T.apiSealed row)) : Rets P F.q42 [.list true x.enc 1, .own b off n' cap] st (.bool false) :=
 k3i (tR := T.bool) (k := 36) (ag := true) Tryz.func163 (by kernel_rfl) (by kernel_rfl) (by kernel_rfl) (by kernel_rfl) Tryz.underlying23 (by kernel_rfl) (by omega) (by simp) hg
def j6n (l : List Card) (i : Nat) (x : Card) (st : q5d) (e : PEnd) (s : q5d) : Prop := e = .ret (Card.lst false (ins l i x)) ∧ s = st
theorem z9b (l : List Card) (i : Nat) (x : Card) : Card.row (ins l i x) = Card.row (l.take i) ++ x.enc ++ Card.row (l.drop i) := by
 simp [ins, Card.row_append]
theorem z13 (l : List Card) (i : Nat) (x : Card) (hi : i ≤ l.length) (Y : List PV) (hY : 36 + (l.length - i) * 36 ≤ Y.length) :
  (q5i (q5i (Card.row (l.take i) ++ Y) ((i + 1) * 36) (Card.row (l.drop i))) (i * 36) x.enc).take ((l.length + 1) * 36) = Card.row (ins l i x) ∧
  (q5i (q5i (Card.row (l.take i) ++ Y) (i * 36) x.enc) ((i + 1) * 36) (Card.row (l.drop i))).take ((l.length + 1) * 36) = Card.row (ins l i x) := by
 have h1 : (Card.row (l.take i)).length = i * 36 := by simp; omega
 have h2 : (Card.row (l.drop i)).length = (l.length - i) * 36 := by simp
 have h3 : x.enc.length = 36 := x.len
 have := k3h (Card.row (l.take i)) Y x.enc (Card.row (l.drop i)) (by omega)
 rw [h1, h2, h3, show i * 36 + 36 = (i + 1) * 36 by omega, show (i + 1) * 36 + (l.length - i) * 36 = (l.length + 1) * 36 by omega] at this
 rw [z9b]
 exact this
theorem k69 (l : List Card) (i : Nat) (C : List PV) (h : i ≤ l.length) : (Card.row l ++ C).take (i * 36) = Card.row (l.take i) ∧ ((Card.row l ++ C).drop (i * 36)).take ((l.length - i) * 36) = Card.row (l.drop i) := by
 have h1 : (Card.row (l.take i)).length = i * 36 := by simp; omega
 have h2 : (Card.row (l.drop i)).length = (l.length - i) * 36 := by simp
 have e : Card.row l = Card.row (l.take i) ++ Card.row (l.drop i) := by rw [← Card.row_append, List.take_append_drop]
 rw [e, List.append_assoc]
 exact ⟨List.take_left' h1, by rw [List.drop_left' h1, List.take_left' h2]⟩
theorem z7p (l : List Card) (hl : l.length ≤ 1024) (i : Nat) (hi : i ≤ l.length) (x : Card) (b cap : Nat) (hc1 : l.length ≤ cap) (hc2 : cap ≤ 9223372036854775807) (R : List PV) (hR1 : R.length = cap * 36) (hR2 : ∃ C, R = Card.row l ++ C)
  (st : q5d) (hb : q6u st b) :
  PCalls P F.q0j [.own b 0 l.length cap, .int i, .list true x.enc 1] ((b, .arr T.apiSealed R) :: st) (j6n l i x st) := by
 have hw : IntKind.i64.wrap ((l.length : Int) + 1) = (l.length : Int) + 1 := q5h (by omega)
 have hw2 : IntKind.i64.wrap ((l.length : Int) + 1 - i) = (l.length : Int) + 1 - i := q5m (by omega) (by omega)
 have hw3 : IntKind.i64.wrap ((i : Int) + 1) = (i : Int) + 1 := q5h (by omega)
 have ht1 : ((l.length : Int) + 1 - i).toNat = l.length + 1 - i := by omega
 have ht2 : ((i : Int) + 1).toNat = i + 1 := by omega
 have ht3 : ((l.length : Int) + 1).toNat = l.length + 1 := by omega
 have ht4 : i + (l.length + 1 - i) = l.length + 1 := by omega
 have hm1 : min (l.length + 1 - i) (l.length - i) = l.length - i := by omega
 have hm2 : min 1 (l.length + 1 - i) = 1 := by omega
 refine H.q0j.view q5n rfl rfl ?_
 rcases Nat.lt_or_ge i l.length with hil | hil
 ·have hm3 : min (l.length - i) (l.length - i) = l.length - i := by omega
  rcases Nat.lt_or_ge cap (l.length + 1) with hcap | hcap
  ·have hq1 : i * 36 + (l.length - i) * 36 ≤ cap * 36 := by omega
   repeat' (first 
    | (with_reducible refine And.intro (fun h => ?_) (fun h => ?_)) <;> (try (exfalso; omega))
    | ((with_reducible refine q51 ?_ fun hk => ?_); omega)
    | (simp -dsimp -implicitDefEqProofs [*]))
   refine k3g (row := R) (by simp) (by simp [hR1]) (by omega) hc2 (by omega) (fun h => absurd h (by omega)) fun _ => ?_
   have hq4 : (i + 1) * 36 + (l.length - i) * 36 ≤ i * 36 + ((l.length + 1 - i) * 36 + (cap - (l.length + 1)) * 36) := by omega
   have hq5 : i * 36 + 36 ≤ i * 36 + ((l.length + 1 - i) * 36 + (cap - (l.length + 1)) * 36) := by omega
   have hq6 : min (i * 36) (cap * 36) = i * 36 := by omega
   repeat' (first 
    | ((with_reducible refine Grow.intro ?_ fun b cap hb hc1 hc2 => ?_); omega) <;> (try simp -dsimp -implicitDefEqProofs [*] at hb)
    | (with_reducible refine RetView.fz 36 ?_ ?_)
    | (with_reducible refine RetView.same ?_)
    | (with_reducible refine And.intro (fun h => ?_) (fun h => ?_)) <;> (try (exfalso; omega))
    | (with_reducible refine And.intro (fun h => ?_) ?_) <;> (try (exfalso; omega))
    | ((with_reducible refine q51 ?_ fun hk => ?_); omega)
    | (simp -dsimp -implicitDefEqProofs [*]))
   refine ⟨?_, rfl⟩
   obtain ⟨C, rfl⟩ := hR2
   have h1 := k69 l i C hi
   have h2 : List.take 36 x.enc = x.enc := List.take_of_length_le (by simp)
   rw [List.take_take, Nat.min_self, h1.1, h1.2, h2, (z13 l i x hi _ (by simp; omega)).2]
   simp [q9r, hi]
  ·have hq1 : i * 36 + (l.length + 1 - i) * 36 ≤ cap * 36 := by omega
   have hq2 : (i + 1) * 36 + (l.length - i) * 36 ≤ cap * 36 := by omega
   have hq3 : i * 36 + 36 ≤ cap * 36 := by omega
   repeat' (first 
    | (with_reducible refine Rets.xcall (z0w _ _ _ _ _ R _ (by simp)) ?_)
    | (with_reducible refine RetView.fz 36 ?_ ?_)
    | (with_reducible refine RetView.same ?_)
    | (with_reducible refine And.intro (fun h => ?_) (fun h => ?_)) <;> (try (exfalso; omega))
    | (with_reducible refine And.intro (fun h => ?_) ?_) <;> (try (exfalso; omega))
    | ((with_reducible refine q51 ?_ fun hk => ?_); omega)
    | (simp -dsimp -implicitDefEqProofs [*]))
   refine ⟨?_, rfl⟩
   obtain ⟨C, rfl⟩ := hR2
   have h1 := k69 l i C hi
   have h2 : List.take 36 x.enc = x.enc := List.take_of_length_le (by simp)
   have e : Card.row l = Card.row (l.take i) ++ Card.row (l.drop i) := by rw [← Card.row_append, List.take_append_drop]
   have h3 : (l.length - i) * 36 ≤ (l.length + 1 - i) * 36 := by omega
   rw [List.take_take, Nat.min_eq_left h3, h1.2, h2, e, List.append_assoc]
   rw [e, List.append_assoc] at hR1
   have h4 : (Card.row (List.take i l)).length = i * 36 := by simp; omega
   rw [List.length_append, h4] at hR1
   rw [(z13 l i x hi _ (by omega)).1]
   simp [q9r, hi]
 ·obtain rfl : i = l.length := by omega
  have hfin : ∀ D, List.take ((l.length + 1) * 36) (List.take (l.length * 36) R ++ (x.enc ++ D)) = Card.row (ins l l.length x) := by
   intro D
   obtain ⟨C, rfl⟩ := hR2
   rw [(k69 l l.length C (Nat.le_refl _)).1, z9b, List.take_length, List.drop_length, ← List.append_assoc, List.take_left' (by simp; omega)]
   simp
  repeat' (first 
   | (with_reducible refine And.intro (fun h => ?_) (fun h => ?_)) <;> (try (exfalso; omega))
   | (simp -dsimp -implicitDefEqProofs [*]))
  ·refine q8y (row := R) (by simp) hR1 hc1 hc2 ?_
   repeat' (first 
    | ((with_reducible refine Grow.intro ?_ fun b cap hb hc1 hc2 => ?_); omega) <;> (try simp -dsimp -implicitDefEqProofs [*] at hb)
    | (with_reducible refine RetView.fz 36 ?_ ?_)
    | (with_reducible refine RetView.same ?_)
    | (simp -dsimp -implicitDefEqProofs [*]))
   simp_all [j6n, q9r]
  ·refine q8y (row := R) (by simp) hR1 hc1 hc2 ?_
   repeat' (first 
    | ((with_reducible refine Grow.intro ?_ fun b cap hb hc1 hc2 => ?_); omega) <;> (try simp -dsimp -implicitDefEqProofs [*] at hb)
    | (with_reducible refine RetView.fz 36 ?_ ?_)
    | (with_reducible refine RetView.same ?_)
    | (simp -dsimp -implicitDefEqProofs [*]))
   simp_all [j6n, q9r]
open Go.Pv
set_option maxRecDepth 100000
set_option maxHeartbeats 8000000
theorem j6o (x : Card) (st : q5d) : PCalls P F.q0j [.list true [] 0, .int (0 : Nat), .list true x.enc 1] st (j6n [] 0 x st) := by
 refine H.q0j.view q5n rfl rfl ?_
 repeat' (first 
  | ((with_reducible refine Grow.intro ?_ fun b cap hb hc1 hc2 => ?_); omega) <;> (try simp -dsimp -implicitDefEqProofs [*] at hb)
  | (with_reducible refine RetView.fz 36 ?_ ?_)
  | (with_reducible refine RetView.same ?_)
  | (simp -dsimp -implicitDefEqProofs [*]))
 refine ⟨?_, rfl⟩
 simp [ins]
section
variable (g h : FuncId) (d : Card → Int) (sm : Card → Bool) (l : List Card) (x : Card) (hl : l.length ≤ 1000) (hm : FallsS d l) (hg : ∀ y ∈ l, ∀ st, Rets P g [y.pv, x.pv] st (.int (d y))) (hh : ∀ y ∈ l, ∀ st, Rets P h [y.pv, x.pv] st (.bool (sm y)))
include hl hm hg hh
theorem y0g (M : List Card) (hM : k9y d sm l x = some M) (st : q5d) : Rets P F.q1h [Card.lst false l, x.pv, .func (.func g) [] [], .func (.func h) [] []] st (Card.lst false M) := by
 have cs := fun st => k7y g d x false l (by omega) hm.weak st (fun y hy st _ => hg y hy st)
 have hp := z3t (d := d) (l := l)
 have hq := k48 (d := d) (l := l)
 unfold k9y at hM
 generalize k8n d l = w at *
 generalize k0m d l = i at *
 refine H.q1h.view q5n rfl rfl ?_
 cases w with
 | true =>
  rw [if_pos rfl] at hM
  have hil := hq rfl
  have hc := hh l[i] (List.getElem_mem hil)
  rw [List.getElem?_eq_getElem hil] at hM
  simp only at hM
  have s0 := Card.row_sub l i hil
  have hk : i * 36 < l.length * 36 := by omega
  obtain ⟨y, hy⟩ : ∃ y, y = l[i] := ⟨_, rfl⟩
  rw [← hy] at hM hc s0
  cases hv : sm y with
  | false => rw [hv] at hM; simp at hM
  | true =>
   rw [hv] at hM hc
   simp only [if_true, Option.some.injEq] at hM
   subst hM
   clear hv hy hq hg hh hm
   repeat' (first 
    | (with_reducible refine Fresh.intro fun b hb => ?_) <;> (try simp -dsimp -implicitDefEqProofs [*] at hb)
    | (with_reducible refine Rets.xcall (cs _) ?_)
    | (with_reducible refine Rets.xcall (hc _) ?_)
    | (with_reducible refine Rets.xcall (q6n _ _) ?_)
    | (simp -dsimp -implicitDefEqProofs [*]))
   exact RetView.drop (st' := st) q5q ⟨rfl, rfl⟩
 | false =>
  rw [if_neg (by simp)] at hM
  simp only [Option.some.injEq] at hM
  clear hq hg hh hm
  repeat' (first 
   | (with_reducible refine Fresh.intro fun b hb => ?_) <;> (try simp -dsimp -implicitDefEqProofs [*] at hb)
   | (with_reducible refine Rets.xcall (cs _) ?_)
   | (with_reducible refine DrawLate.intro [] ?_)
   | (simp -dsimp -implicitDefEqProofs [*]))
  revert b; intro q hq
  refine q50 (j01 false l (by omega) _) fun e s hs => ?_
  rcases hs with ⟨rfl, rfl, rfl⟩ | ⟨b2, cap, hb2, hc1, hc2, rfl, rfl⟩
  ·have hi0 : i = 0 := by simpa using hp
   subst hi0
   repeat' (simp -dsimp -implicitDefEqProofs [*])
   refine q50 (j6o x _) fun e s hs => ?_
   obtain ⟨rfl, rfl⟩ := hs
   rw [hM]
   repeat' (simp -dsimp -implicitDefEqProofs [*])
   exact RetView.drop (st' := st) q5q ⟨rfl, rfl⟩
  ·simp -dsimp -implicitDefEqProofs [*] at hb2
   repeat' (simp -dsimp -implicitDefEqProofs [*])
   unfold y46
   refine q50 (z7p l (by omega) i hp x b2 cap hc1 hc2 (Card.row l ++ List.replicate ((cap - l.length) * 36) .any) (by simp; omega) ⟨_, rfl⟩ ((q, .arr T.apiSealed x.enc) :: st) (by simp [*])) fun e s hs => ?_
   obtain ⟨rfl, rfl⟩ := hs
   rw [hM]
   repeat' (simp -dsimp -implicitDefEqProofs [*])
   exact RetView.drop (st' := st) q5q ⟨rfl, rfl⟩
theorem y0h (hM : k9y d sm l x = none) (st : q5d) : Panics P F.q1h [Card.lst false l, x.pv, .func (.func g) [] [], .func (.func h) [] []] st (.iface T.openingstop (.agg [.int 141])) := by
 have cs := fun st => k7y g d x false l (by omega) hm.weak st (fun y hy st _ => hg y hy st)
 have hq := k48 (d := d) (l := l)
 unfold k9y at hM
 generalize k8n d l = w at *
 generalize k0m d l = i at *
 cases w with
 | false => simp at hM
 | true =>
  rw [if_pos rfl] at hM
  have hil := hq rfl
  have hc := hh l[i] (List.getElem_mem hil)
  rw [List.getElem?_eq_getElem hil] at hM
  simp only at hM
  have s0 := Card.row_sub l i hil
  have hk : i * 36 < l.length * 36 := by omega
  obtain ⟨y, hy⟩ : ∃ y, y = l[i] := ⟨_, rfl⟩
  rw [← hy] at hM hc s0
  cases hv : sm y with
  | true => rw [hv] at hM; simp at hM
  | false =>
   rw [hv] at hc
   clear hv hy hq hg hh hm hM
   refine H.q1h.panics q5n rfl rfl ?_
   repeat' (first 
    | (with_reducible refine Fresh.intro fun b hb => ?_) <;> (try simp -dsimp -implicitDefEqProofs [*] at hb)
    | (with_reducible refine Rets.xcall (cs _) ?_)
    | (with_reducible refine Rets.xcall (hc _) ?_)
    | (with_reducible refine Panics.xcall (q8i _ _) ?_)
    | (simp -dsimp -implicitDefEqProofs [*]))
end
open Go.Pv
set_option maxRecDepth 100000
set_option maxHeartbeats 4000000
theorem k7z (g : FuncId) (c : Sh → Int) (y : Sh) (t : Bool) (l : List Sh) (hl : l.length ≤ 1024) (hm : Falls c l) (st : q5d) (hg : ∀ x ∈ l, ∀ st', StLe st st' → Rets P g [x.pv, y.pv] st' (.int (c x))) : Rets P F.q0a [Sh.lst t l, y.pv, .func (.func g) [] []] st (.tuple [.int (k0m c l), .bool (k8n c l)]) := by
 refine H.q0a.view q5n rfl rfl ?_
 repeat' (first 
  | (with_reducible refine Fresh.intro fun b hb => ?_) <;> (try simp -dsimp -implicitDefEqProofs [*] at hb)
  | (simp -dsimp -implicitDefEqProofs [*]))
 revert b; intro q hq
 refine q5g (fun x : Nat × Nat => [(0, Sh.lst t l), (4, .ptr q 0), (2, .func (.func g) [] []), (8, .int l.length), (9, .int (x.1 : Nat)), (10, .int (x.2 : Nat))]) (fun _ => (q, .arr T.apiKeyShare y.enc) :: st)
  (fun x => x.1 ≤ x.2 ∧ x.2 ≤ l.length ∧ Hid ((∀ k, k < x.1 → ∀ h : k < l.length, c l[k] < 0) ∧ (∀ k, x.2 ≤ k → ∀ h : k < l.length, 0 ≤ c l[k]))) (fun x => x.2 - x.1) (0, l.length) ⟨Nat.zero_le _, Nat.le_refl _, ⟨fun k h => absurd h (by simp), fun k h1 h2 => absurd h1 (by simp only; omega)⟩⟩ (by simp) (.refl _) ?_
 rintro ⟨i, j⟩ ⟨h1, h2, h3⟩
 replace h1 : i ≤ j := h1
 replace h2 : j ≤ l.length := h2
 replace h3 : Hid ((∀ k, k < i → ∀ h : k < l.length, c l[k] < 0) ∧ (∀ k, j ≤ k → ∀ h : k < l.length, 0 ≤ c l[k])) := h3
 by_cases hij : i < j
 ·have hm1 : IntKind.i64.wrap ((i : Int) + j) = (i : Int) + j := q5m (by omega) (by omega)
  have hm2 : IntKind.u64.wrap ((i : Int) + j) = (i : Int) + j := q70 (by omega) (by omega)
  have hm3 := z40 (i := i) (j := j) (by omega)
  obtain ⟨m, hmd⟩ : ∃ m, m = (i + j) / 2 := ⟨_, rfl⟩
  rw [← hmd] at hm3
  have hm4 := q5h (n := m) (by omega)
  have him : i ≤ m ∧ m < j := by omega
  have hml : m < l.length := by omega
  have s0 := Sh.row_sub l m hml
  have hk : m * 4 < l.length * 4 := by omega
  have hc := hg l[m] (List.getElem_mem hml) ((q, .arr T.apiKeyShare y.enc) :: st) (.fresh hq)
  have f1 : Hid (c l[m] < 0 → (∀ k, k < m + 1 → ∀ h : k < l.length, c l[k] < 0) ∧ (∀ k, j ≤ k → ∀ h : k < l.length, 0 ≤ c l[k])) := ⟨fun hn => ⟨fun k hk h => if e : k = m then by subst e; exact hn else hm.out k m (by omega) hml hn (h' := h), h3.out.2⟩⟩
  have f2 : Hid (0 ≤ c l[m] → (∀ k, k < i → ∀ h : k < l.length, c l[k] < 0) ∧ (∀ k, m ≤ k → ∀ h : k < l.length, 0 ≤ c l[k])) := ⟨fun hp => ⟨h3.out.1, fun k hk h => Int.not_lt.1 fun hn => by
   by_cases e : k = m
   ·subst e; omega
   ·have := hm.out m k (by omega) h hn (h' := hml); omega⟩⟩
  obtain ⟨x, hx⟩ : ∃ x, x = l[m] := ⟨_, rfl⟩
  rw [← hx] at s0 hc f1 f2
  obtain ⟨v, hv⟩ : ∃ v, v = c x := ⟨_, rfl⟩
  rw [← hv] at hc f1 f2
  clear hmd hx hv h3 hg hm
  by_cases hv0 : v < 0
  ·have h5 := Hid.mk (f1.out hv0)
   clear f1 f2
   repeat' (first 
    | (with_reducible refine Rets.xcall (hc) ?_)
    | (with_reducible refine DrawLate.intro [] ?_)
    | (simp -dsimp -implicitDefEqProofs [*]))
   exact Next.intro (m + 1, j) ⟨by simp only; omega, h2, h5⟩ (by simp only; omega) (by simp) q5q
  ·have hv1 : 0 ≤ v := by omega
   have h5 := Hid.mk (f2.out hv1)
   clear f1 f2
   repeat' (first 
    | (with_reducible refine Rets.xcall (hc) ?_)
    | (with_reducible refine DrawLate.intro [] ?_)
    | (simp -dsimp -implicitDefEqProofs [*]))
   exact Next.intro (i, m) ⟨by simp only; omega, by simp only; omega, h5⟩ (by simp only; omega) (by simp) q5q
 ·obtain rfl : j = i := by omega
  obtain ⟨e1, e2⟩ := k15 h2 h3.out.1 h3.out.2
  rw [← e1, e2]
  have kl : (j : Int) < l.length ↔ j < l.length := by omega
  clear h3
  by_cases hjl : j < l.length
  ·have s0 := Sh.row_sub l j hjl
   have hk : j * 4 < l.length * 4 := by omega
   have hc := hg l[j] (List.getElem_mem hjl) ((q, .arr T.apiKeyShare y.enc) :: st) (.fresh hq)
   have hjl2 : (j : Int) < l.length := by omega
   rw [dif_pos hjl]
   obtain ⟨x, hx⟩ : ∃ x, x = l[j] := ⟨_, rfl⟩
   rw [← hx] at s0 hc ⊢
   obtain ⟨v, hv⟩ : ∃ v, v = c x := ⟨_, rfl⟩
   rw [← hv] at hc ⊢
   clear hx hv hg hm e1 e2 kl
   repeat' (first 
    | (with_reducible refine Rets.xcall (hc) ?_)
    | (with_reducible refine DrawLate.intro [] ?_)
    | (simp -dsimp -implicitDefEqProofs [*]))
   exact RetView.drop (st' := st) q5q ⟨rfl, rfl⟩
  ·have hjl2 : ¬ (j : Int) < l.length := by omega
   rw [dif_neg hjl]
   clear hg hm e1 e2 kl
   repeat' (first 
    | (with_reducible refine DrawLate.intro [] ?_)
    | (simp -dsimp -implicitDefEqProofs [*]))
   exact RetView.drop (st' := st) q5q ⟨rfl, rfl⟩
end Go.Proofs.YtnooplpbpfiapaaGreatDoor
