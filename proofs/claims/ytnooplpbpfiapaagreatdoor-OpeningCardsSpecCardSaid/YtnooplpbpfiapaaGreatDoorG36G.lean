/- Lists of Shn that rise, and what holds for all of them. -/
import Derived.Test.YtnooplpbpfiapaaGreatDoorG36A
import Derived.Test.YtnooplpbpfiapaaGreatDoorG36P
namespace Go.Proofs.YtnooplpbpfiapaaGreatDoor
open Go.Pv
set_option maxRecDepth 100000
set_option maxHeartbeats 4000000
theorem z7j (g : FuncId) (c : Shn → Shn → Int) (t : Bool) (l : List Shn) (hl : l.length ≤ 9223372036854775807) (st : q5d) (hg : ∀ x ∈ l, ∀ y ∈ l, ∀ st, Rets P g [x.pv, y.pv] st (.int (c x y))) : Rets P F.q2d [Shn.lst t l, .func (.func g) [] []] st (.bool (q53 c l)) := by
 obtain ⟨w, hw⟩ : ∃ w, w = q53 c l := ⟨_, rfl⟩
 rw [← hw]
 have kw : Hid (w = true ↔ ∀ i (h : i + 1 < l.length), c l[i] l[i + 1] < 0) := ⟨by rw [hw]; exact q72 c l⟩
 clear hw
 refine H.q2d.view q5n rfl rfl ?_
 repeat' (simp -dsimp -implicitDefEqProofs [*])
 refine q5g (fun n : Nat => [(0, Shn.lst t l), (1, .func (.func g) [] []), (5, .int n)]) (fun _ => st) (fun n => 1 ≤ n ∧ n ≤ max 1 l.length ∧ Hid (∀ i (_ : i + 1 < n) (h : i + 1 < l.length), c l[i] l[i + 1] < 0)) (fun n => l.length - n) 1 ⟨Nat.le_refl _, by omega, ⟨fun i h => absurd h (by omega)⟩⟩ (by simp) (.refl _) ?_
 rintro n ⟨hn1, hn, hI⟩
 by_cases hnl : n < l.length
 ·obtain ⟨m, rfl⟩ : ∃ m, n = m + 1 := ⟨n - 1, by omega⟩
  have hml : m < l.length := by omega
  have hw := q5h (n := m + 1) (by omega)
  have wk : IntKind.i64.wrap (((m + 1 : Nat) : Int) - 1) = (m : Int) := by rw [q5m (by omega) (by omega)]; omega
  have hc := hg l[m] (List.getElem_mem hml) l[m + 1] (List.getElem_mem hnl)
  have s0 := Shn.row_sub l m hml
  have s1 := Shn.row_sub l (m + 1) hnl
  have hst : Hid (c l[m] l[m + 1] < 0 → ∀ i (_ : i + 1 < m + 2) (h : i + 1 < l.length), c l[i] l[i + 1] < 0) := ⟨fun h i hi h2 => if e : i = m then by subst e; exact h else hI.out i (by omega) h2⟩
  have hno : Hid (¬ c l[m] l[m + 1] < 0 → w = false) := ⟨fun h => Bool.eq_false_iff.2 fun e => h (kw.out.1 e m hnl)⟩
  obtain ⟨x, hx⟩ : ∃ x, x = l[m] := ⟨_, rfl⟩
  obtain ⟨y, hy⟩ : ∃ y, y = l[m + 1] := ⟨_, rfl⟩
  rw [← hx, ← hy] at hc hst hno
  rw [← hx] at s0
  rw [← hy] at s1
  obtain ⟨v, hv⟩ : ∃ v, v = c x y := ⟨_, rfl⟩
  rw [← hv] at hc hst hno
  obtain ⟨n, hnk⟩ : ∃ n, n = m + 1 := ⟨_, rfl⟩
  have hst2 : Hid (v < 0 → ∀ i (_ : i + 1 < n + 1) (h : i + 1 < l.length), c l[i] l[i + 1] < 0) := ⟨by rw [hnk]; exact hst.out⟩
  rw [← hnk] at hw wk hnl s1 ⊢
  have hn2 : n * 34 < l.length * 34 ∧ m * 34 < l.length * 34 := by omega
  clear hI hg hx hy hv hnk hst kw hn1 hn
  by_cases h : v < 0
  ·have h3 := Hid.mk (hst2.out h)
   clear hst2 hno
   repeat' (first 
    | (with_reducible refine Rets.xcall (hc _) ?_)
    | (with_reducible refine DrawLate.intro [] ?_)
    | (with_reducible refine And.intro (fun h => ?_) ?_) <;> (try (exfalso; omega))
    | (simp -dsimp -implicitDefEqProofs [*]))
   exact Next.intro (n + 1) ⟨by omega, by omega, h3⟩ (by omega) (by simp) q5q
  ·have h3 := hno.out h
   have h4 : 0 ≤ v := by omega
   subst h3
   clear hst2 hno
   repeat' (first 
    | (with_reducible refine Rets.xcall (hc _) ?_)
    | (with_reducible refine DrawLate.intro [] ?_)
    | (simp -dsimp -implicitDefEqProofs [*]))
   exact .same ⟨rfl, rfl⟩
 ·have hw : w = true := kw.out.2 fun i h => hI.out i (by omega) h
  subst hw
  have hnl2 : ¬ (n : Int) < l.length := by omega
  clear hI kw hg hn hnl
  repeat' (simp -dsimp -implicitDefEqProofs [*])
  exact .same ⟨rfl, rfl⟩
theorem j30 (g : FuncId) (cs : List PV) (p : Shn → Bool) (t : Bool) (l : List Shn) (hl : l.length ≤ 9223372036854775807) (st : q5d) (hf : ∀ x ∈ l, Rets P g (x.pv :: cs) st (.bool (p x))) : Rets P F.q0w [Shn.lst t l, .func (.func g) [] cs] st (.int (k7x p l)) := by
 refine H.q0w.view q5n rfl rfl ?_
 repeat' (simp -dsimp -implicitDefEqProofs [*])
 refine q5g (fun n : Nat => [(0, Shn.lst t l), (1, .func (.func g) [] cs), (7, .int l.length), (8, .int n)]) (fun _ => st) (fun n => n ≤ l.length ∧ Hid (∀ j (_ : j < n) (hl : j < l.length), p l[j] = false)) (fun n => l.length - n) 0 ⟨Nat.zero_le _, ⟨fun j hj => absurd hj (by omega)⟩⟩ (by simp) (.refl _) ?_
 rintro n ⟨hn, he2⟩
 by_cases hnl : n < l.length
 ·have hw := q5h (n := n) (by omega)
  have hf1 := hf l[n] (List.getElem_mem hnl)
  have hi : Hid (p l[n] = true → k7x p l = n) := ⟨fun hp => q9q hnl (fun j hj => he2.out j hj (by omega)) hp⟩
  have hno : Hid (p l[n] = false → ∀ j (_ : j < n + 1) (hl : j < l.length), p l[j] = false) := ⟨fun hp j hj hl => if h : j = n then by subst h; exact hp else he2.out j (by omega) hl⟩
  have s0 := Shn.row_sub l n hnl
  have hn2 : n * 34 < l.length * 34 := by omega
  clear hf he2
  cases hp : p l[n] with
  | true =>
   rw [hp] at hf1
   have e := hi.out hp
   rw [e]
   clear hp hi hno
   repeat' (first 
    | (with_reducible refine Rets.xcall (hf1) ?_)
    | (simp -dsimp -implicitDefEqProofs [*]))
   exact .same ⟨rfl, rfl⟩
  | false =>
   rw [hp] at hf1
   have e : Hid _ := ⟨hno.out hp⟩
   clear hp hi hno
   repeat' (first 
    | (with_reducible refine Rets.xcall (hf1) ?_)
    | (simp -dsimp -implicitDefEqProofs [*]))
   exact Next.intro (n + 1) ⟨by omega, e⟩ (by omega) (by simp) q5q
 ·have e : n = l.length := by omega
  subst e
  have hi : Hid (k7x p l = -1) := ⟨k02 fun j hj => he2.out j hj hj⟩
  rw [hi.out]
  clear hf he2
  repeat' (simp -dsimp -implicitDefEqProofs [*])
  exact .same ⟨rfl, rfl⟩
theorem j0y (g : FuncId) (cs : List PV) (p : Shn → Bool) (t : Bool) (l : List Shn) (hl : l.length ≤ 9223372036854775807) (st : q5d) (hf : ∀ x ∈ l, Rets P g (x.pv :: cs) st (.bool (p x))) : Rets P F.q0r [Shn.lst t l, .func (.func g) [] cs] st (.bool (l.any p)) := by
 have hi := j30 g cs p t l hl st hf
 have e := k6g p l
 rw [← e]
 obtain ⟨v, hv⟩ : ∃ v, v = k7x p l := ⟨_, rfl⟩
 rw [← hv] at hi ⊢
 clear hv e hf
 refine H.q0r.pure q5n rfl rfl ?_
 repeat' (first 
  | (with_reducible refine Rets.xcall (hi) ?_)
  | (simp -dsimp -implicitDefEqProofs [*]))
theorem j0z (g : FuncId) (fs : List PV) (p0 : Nat) (U : TypeId) (w : Bool) (x : Shn) (st0 st : q5d) (hp0 : q6u st0 p0) (hs : st = (p0, .arr U [.func (.func g) fs []]) :: st0) (hg : ∀ st, StLe st0 st → Rets P g (fs ++ [x.pv]) st (.bool w)) : Rets P F.q10 [x.pv, .ptr p0 0] st (.bool (!w)) := by
 subst hs
 refine H.q10.pure q5n rfl rfl ?_
 repeat' (first 
  | (with_reducible refine Fresh.intro fun b hb => ?_) <;> (try simp -dsimp -implicitDefEqProofs [*] at hb)
  | (simp -dsimp -implicitDefEqProofs [*]))
 have hg1 := hg ((b, .arr T.apiShown x.enc) :: (p0, .arr U [.func (.func g) fs []]) :: st0) (.trans (.fresh hp0) (.fresh (by simp [*])))
 repeat' (first 
  | (with_reducible refine Rets.xcall (hg1) ?_)
  | (simp -dsimp -implicitDefEqProofs [*]))
theorem j31 (g : FuncId) (fs : List PV) (p : Shn → Bool) (t : Bool) (l : List Shn) (hl : l.length ≤ 9223372036854775807) (st : q5d) (hg : ∀ x ∈ l, ∀ st', StLe st st' → Rets P g (fs ++ [x.pv]) st' (.bool (p x))) : Rets P F.q2x [Shn.lst t l, .func (.func g) fs []] st (.bool (l.all p)) := by
 refine H.q2x.pure q5n rfl rfl ?_
 repeat' (first 
  | (with_reducible refine Fresh.intro fun b hb => ?_) <;> (try simp -dsimp -implicitDefEqProofs [*] at hb)
  | (simp -dsimp -implicitDefEqProofs [*]))
 have hc := j0y F.q10 [.ptr b 0] (fun x => !p x) t l hl ((b, .arr T.q5b [.func (.func g) fs []]) :: st) (fun x hx => j0z g fs b _ (p x) x st _ hb rfl (hg x hx))
 have e : (!l.any fun x => !p x) = l.all p := by rw [List.all_eq_not_any_not]
 rw [← e]
 generalize (l.any fun x => !p x) = w at *
 clear hg e
 repeat' (first 
  | (with_reducible refine Rets.xcall (hc) ?_)
  | (simp -dsimp -implicitDefEqProofs [*]))
open Go.Pv
set_option maxRecDepth 100000
set_option maxHeartbeats 4000000
theorem z3v (g : FuncId) (c : Card → Int) (y : Int) (t : Bool) (l : List Card) (hl : l.length ≤ 1024) (hm : Falls c l) (st : q5d) (hg : ∀ x ∈ l, ∀ st', StLe st st' → Rets P g [x.pv, .int y] st' (.int (c x))) : Rets P F.q0g [Card.lst t l, .int y, .func (.func g) [] []] st (.tuple [.int (k0m c l), .bool (k8n c l)]) := by
 refine H.q0g.view q5n rfl rfl ?_
 repeat' (simp -dsimp -implicitDefEqProofs [*])
 refine q5g (fun x : Nat × Nat => [(0, Card.lst t l), (1, .int y), (2, .func (.func g) [] []), (8, .int l.length), (9, .int (x.1 : Nat)), (10, .int (x.2 : Nat))]) (fun _ => st)
  (fun x => x.1 ≤ x.2 ∧ x.2 ≤ l.length ∧ Hid ((∀ k, k < x.1 → ∀ h : k < l.length, c l[k] < 0) ∧ (∀ k, x.2 ≤ k → ∀ h : k < l.length, 0 ≤ c l[k]))) (fun x => x.2 - x.1) (0, l.length) ⟨Nat.zero_le _, Nat.le_refl _, ⟨fun k h => absurd h (by simp), fun k h1 h2 => absurd h1 (by simp only; omega)⟩⟩ (by simp) (.refl _) ?_
 rintro ⟨i, j⟩ ⟨h1, h2, h3⟩
 replace h1 : i ≤ j := h1
 replace h2 : j ≤ l.length := h2
 replace h3 : Hid ((∀ k, k < i → ∀ h : k < l.length, c l[k] < 0) ∧ (∀ k, j ≤ k → ∀ h : k < l.length, 0 ≤ c l[k])) := h3
 by_cases hij : i < j
 ·have hm1 : IntKind.i64.wrap ((i : Int) + j) = (i : Int) + j := q5m (by omega) (by omega)
  have hm2 : IntKind.u64.wrap ((i : Int) + j) = (i : Int) + j := q70 (by omega) (by omega)
  have hm3 := z40 (i := i) (j := j) (by omega)
  obtain ⟨m, hmd⟩ : ∃ m, m = (i + j) / 2 := ⟨_, rfl⟩
  rw [← hmd] at hm3
  have hm4 := q5h (n := m) (by omega)
  have him : i ≤ m ∧ m < j := by omega
  have hml : m < l.length := by omega
  have s0 := Card.row_sub l m hml
  have hk : m * 36 < l.length * 36 := by omega
  have hc := hg l[m] (List.getElem_mem hml) st (.refl _)
  have f1 : Hid (c l[m] < 0 → (∀ k, k < m + 1 → ∀ h : k < l.length, c l[k] < 0) ∧ (∀ k, j ≤ k → ∀ h : k < l.length, 0 ≤ c l[k])) := ⟨fun hn => ⟨fun k hk h => if e : k = m then by subst e; exact hn else hm.out k m (by omega) hml hn (h' := h), h3.out.2⟩⟩
  have f2 : Hid (0 ≤ c l[m] → (∀ k, k < i → ∀ h : k < l.length, c l[k] < 0) ∧ (∀ k, m ≤ k → ∀ h : k < l.length, 0 ≤ c l[k])) := ⟨fun hp => ⟨h3.out.1, fun k hk h => Int.not_lt.1 fun hn => by
   by_cases e : k = m
   ·subst e; omega
   ·have := hm.out m k (by omega) h hn (h' := hml); omega⟩⟩
  obtain ⟨x, hx⟩ : ∃ x, x = l[m] := ⟨_, rfl⟩
  rw [← hx] at s0 hc f1 f2
  obtain ⟨v, hv⟩ : ∃ v, v = c x := ⟨_, rfl⟩
  rw [← hv] at hc f1 f2
  clear hmd hx hv h3 hg hm
  by_cases hv0 : v < 0
  ·have h5 := Hid.mk (f1.out hv0)
   clear f1 f2
   repeat' (first 
    | (with_reducible refine Rets.xcall (hc) ?_)
    | (simp -dsimp -implicitDefEqProofs [*]))
   exact Next.intro (m + 1, j) ⟨by simp only; omega, h2, h5⟩ (by simp only; omega) (by simp) q5q
  ·have hv1 : 0 ≤ v := by omega
   have h5 := Hid.mk (f2.out hv1)
   clear f1 f2
   repeat' (first 
    | (with_reducible refine Rets.xcall (hc) ?_)
    | (simp -dsimp -implicitDefEqProofs [*]))
   exact Next.intro (i, m) ⟨by simp only; omega, by simp only; omega, h5⟩ (by simp only; omega) (by simp) q5q
 ·obtain rfl : j = i := by omega
  obtain ⟨e1, e2⟩ := k15 h2 h3.out.1 h3.out.2
  rw [← e1, e2]
  have kl : (j : Int) < l.length ↔ j < l.length := by omega
  clear h3
  by_cases hjl : j < l.length
  ·have s0 := Card.row_sub l j hjl
   have hk : j * 36 < l.length * 36 := by omega
   have hc := hg l[j] (List.getElem_mem hjl) st (.refl _)
   have hjl2 : (j : Int) < l.length := by omega
   rw [dif_pos hjl]
   obtain ⟨x, hx⟩ : ∃ x, x = l[j] := ⟨_, rfl⟩
   rw [← hx] at s0 hc ⊢
   obtain ⟨v, hv⟩ : ∃ v, v = c x := ⟨_, rfl⟩
   rw [← hv] at hc ⊢
   clear hx hv hg hm e1 e2 kl
   repeat' (first 
    | (with_reducible refine Rets.xcall (hc) ?_)
    | (simp -dsimp -implicitDefEqProofs [*]))
   exact .same ⟨rfl, rfl⟩
  ·have hjl2 : ¬ (j : Int) < l.length := by omega
   rw [dif_neg hjl]
   clear hg hm e1 e2 kl
   repeat' (simp -dsimp -implicitDefEqProofs [*])
   exact .same ⟨rfl, rfl⟩
open Go.Pv
set_option maxRecDepth 100000
set_option maxHeartbeats 8000000
structure GL (st : q5d) : Prop where
 h0 : q5w st 0 = some (.arr T.t8uint32 Sha.start.row)
 h1 : q5w st 1 = some q9o
theorem GL.le {st st' : q5d} (h : GL st) (k : StLe st st') : GL st' := ⟨k _ _ h.h0, k _ _ h.h1⟩
theorem GL.cons {st : q5d} (h : GL st) {b : Nat} {o : PObj} (hb : q6u st b) : GL ((b, o) :: st) := h.le (.fresh hb)
def j32 : Option Card → PV
 | none => .agg k36
 | some x => x.pv
theorem z12 (s : Ses) (hl : s.sealed.length ≤ 1024) (hr : q53 cJ s.sealed = true) (n : Int) (st : q5d) : Rets P F.q2f [s.pv, .int n] st (.tuple [j32 (q8r s n), .bool (q8r s n).isSome]) := by
 have hf := k66 hr n
 have cs := fun st => z3v F.q3x (fun x => k1h x.j n) n false s.sealed hl hf.weak st (fun x _ st _ => z5l x n st)
 have hfd := found hf
 rw [← j3t] at hfd
 have hfe : ∃ w i, k8n (fun x : Card => k1h x.j n) s.sealed = w ∧ k0m (fun x : Card => k1h x.j n) s.sealed = i ∧ (w = true → ∃ h : i < s.sealed.length, q8r s n = some s.sealed[i]) ∧ (w = false → q8r s n = none) := ⟨_, _, rfl, rfl, hfd⟩
 obtain ⟨w, i, e1, e2, hfd⟩ := hfe
 rw [e1, e2] at cs
 clear e1 e2 hf
 refine H.q2f.view q5n rfl rfl ?_
 cases w with
 | false =>
  rw [hfd.2 rfl]
  clear hfd
  repeat' (first 
   | (with_reducible refine Fresh.intro fun b hb => ?_) <;> (try simp -dsimp -implicitDefEqProofs [*] at hb)
   | (with_reducible refine Rets.xcall (cs _) ?_)
   | (simp -dsimp -implicitDefEqProofs [*]))
  exact RetView.drop (st' := st) q5q ⟨rfl, rfl⟩
 | true =>
  obtain ⟨hil, e⟩ := hfd.1 rfl
  rw [e]
  clear hfd e
  have s0 := Card.row_sub s.sealed i hil
  have hk : i * 36 < s.sealed.length * 36 := by omega
  obtain ⟨x, hx⟩ : ∃ x, x = s.sealed[i] := ⟨_, rfl⟩
  rw [← hx] at s0 ⊢
  clear hx
  repeat' (first 
   | (with_reducible refine Fresh.intro fun b hb => ?_) <;> (try simp -dsimp -implicitDefEqProofs [*] at hb)
   | (with_reducible refine Rets.xcall (cs _) ?_)
   | (simp -dsimp -implicitDefEqProofs [*]))
  exact RetView.drop (st' := st) q5q ⟨rfl, rfl⟩
theorem k67 (s : Ses) (hs : s.judges.length ≤ 100000) (x : Card) (hx : x.c.length ≤ 100000) (st : q5d) : Rets P F.q1r [s.pv, x.pv] st (.bool (q8l s x)) := by
 have ck := fun st => j3l x.r x.e x.j false x.c hx x.d.1 x.d.2 st
 have cj := k65 s (by omega) x.j
 obtain ⟨A, hA⟩ : ∃ A, A = chk x.r x.e x.j x.c := ⟨_, rfl⟩
 obtain ⟨B, hB⟩ : ∃ B, B = decide (x.j ∈ s.judges) := ⟨_, rfl⟩
 unfold q8l
 rw [← hA, ← hB]
 rw [← hB] at cj
 have ck2 : ∀ st, Rets P F.q4i [x.pv] st (.int (if A = true then 0 else 340)) := by rw [hA]; exact ck
 clear hA hB ck
 refine H.q1r.pure q5n rfl rfl ?_
 cases A with
 | false =>
  simp only [Bool.false_eq_true, if_false] at ck2
  repeat' (first 
   | (with_reducible refine Fresh.intro fun b hb => ?_) <;> (try simp -dsimp -implicitDefEqProofs [*] at hb)
   | (with_reducible refine Rets.xcall (ck2 _) ?_)
   | (simp -dsimp -implicitDefEqProofs [*]))
 | true =>
  simp only [if_true] at ck2
  repeat' (first 
   | (with_reducible refine Fresh.intro fun b hb => ?_) <;> (try simp -dsimp -implicitDefEqProofs [*] at hb)
   | (with_reducible refine Rets.xcall (ck2 _) ?_)
   | (with_reducible refine Rets.xcall (cj _) ?_)
   | (with_reducible refine And.intro (fun h => ?_) (fun h => ?_)) <;> (try (exfalso; omega))
   | (simp -dsimp -implicitDefEqProofs [*]))
theorem k5a (s : Ses) (hs : s.judges.length ≤ 100000) (x : Sh) (st : q5d) : Rets P F.q1i [s.pv, x.pv] st (.bool (q7d s x)) := by
 have c1 := k65 s (by omega) x.o
 have c2 := k65 s (by omega) x.h
 obtain ⟨A, hA⟩ : ∃ A, A = decide (x.o ∈ s.judges) := ⟨_, rfl⟩
 obtain ⟨B, hB⟩ : ∃ B, B = decide (x.h ∈ s.judges) := ⟨_, rfl⟩
 have c3 := q61 x.c s.crits
 have c4 := q61 x.v 1073741789
 unfold q7d
 rw [← hA, ← hB]
 rw [← hA] at c1
 rw [← hB] at c2
 generalize wiL x.c s.crits = C at *
 generalize wiL x.v 1073741789 = D at *
 clear hA hB
 refine H.q1i.pure q5n rfl rfl ?_
 repeat' (first 
  | (with_reducible refine Fresh.intro fun b hb => ?_) <;> (try simp -dsimp -implicitDefEqProofs [*] at hb)
  | (with_reducible refine Rets.xcall (c1 _) ?_)
  | (with_reducible refine Rets.xcall (c2 _) ?_)
  | (with_reducible refine Rets.xcall (c3 _) ?_)
  | (with_reducible refine Rets.xcall (c4 _) ?_)
  | (with_reducible refine And.intro (fun h => ?_) (fun h => ?_)) <;> (try (exfalso; omega))
  | (simp -dsimp -implicitDefEqProofs [*]))
theorem k68 (s : Ses) (hl : s.sealed.length ≤ 1024) (hc : ∀ x ∈ s.sealed, x.c.length ≤ 100000) (hr : q53 cJ s.sealed = true) (x : Shn) (hx : x.k.length ≤ 100000) (st : q5d) (hG : GL st) : Rets P F.q1s [s.pv, x.pv] st (.bool (q75 s x)) := by
 have cc := z12 s hl hr x.j
 have hN := q6k hG.h0 hG.h1
 have h0 := hG.h0
 have h1 := hG.h1
 obtain ⟨W, hW⟩ : ∃ W, W = q75 s x := ⟨_, rfl⟩
 rw [← hW]
 unfold q75 at hW
 refine H.q1s.pure q5n rfl rfl ?_
 have hm : ∀ y, q8r s x.j = some y → y.c.length ≤ 100000 := fun y hy => hc y (List.mem_of_find?_eq_some hy)
 cases hy : q8r s x.j with
 | none =>
  rw [hy] at cc hW
  replace hW : W = false := hW
  subst hW
  simp only [j32, Option.isSome_none] at cc
  clear hm hy
  repeat' (first 
   | (with_reducible refine Fresh.intro fun b hb => ?_) <;> (try simp -dsimp -implicitDefEqProofs [*] at hb)
   | (with_reducible refine Rets.xcall (cc _) ?_)
   | (simp -dsimp -implicitDefEqProofs [*]))
 | some y =>
  rw [hy] at cc hW
  replace hW : W = (q8s y x).isSome := hW
  simp only [j32, Option.isSome_some] at cc
  have hyl := hm y hy
  have co := fun st => z5h false false y.r y.e y.j y.c x.k hyl hx y.d.1 x.s.1 y.d.2 x.s.2 st
  have hb : (q8s y x).isSome = true → q6f y.r y.e y.j y.c x.k = true := by
   unfold q8s k4c
   cases q6f y.r y.e y.j y.c x.k <;> simp
  have co2 : ∀ st, q5w st 0 = some (.arr T.t8uint32 Sha.start.row) → q5w st 1 = some q9o → Rets P F.q4s [y.pv, q5k false x.k, .agg (q5e x.s.1)] st (.tuple [k22 (q8s y x), .bool (q8s y x).isSome, .int (if q6f y.r y.e y.j y.c x.k then 0 else 340)]) := co
  generalize q8s y x = O at *
  generalize q6f y.r y.e y.j y.c x.k = B at *
  clear hm hy co hyl hx hc hr hG
  subst hW
  cases O with
  | none =>
   clear hb
   simp only [k22, Option.isSome_none] at co2
   repeat' (first 
    | (with_reducible refine Fresh.intro fun b hb => ?_) <;> (try simp -dsimp -implicitDefEqProofs [*] at hb)
    | (with_reducible refine Rets.xcall (cc _) ?_)
    | (with_reducible refine Rets.xcall (co2 _ (by simp [*]) (by simp [*])) ?_)
    | (simp -dsimp -implicitDefEqProofs [*]))
  | some m =>
   obtain rfl := hb rfl
   clear hb
   simp only [k22, Option.isSome_some, if_true] at co2
   repeat' (first 
    | (with_reducible refine Fresh.intro fun b hb => ?_) <;> (try simp -dsimp -implicitDefEqProofs [*] at hb)
    | (with_reducible refine Rets.xcall (cc _) ?_)
    | (with_reducible refine Rets.xcall (co2 _ (by simp [*]) (by simp [*])) ?_)
    | (simp -dsimp -implicitDefEqProofs [*]))
open Go.Pv
set_option maxRecDepth 100000
set_option maxHeartbeats 8000000
theorem z5m (n : Int) (st : q5d) : Rets P F.q1f [.int n] st (.bool (wiL n 256)) := by
 have c := q61 n 256
 refine H.q1f.pure q5n rfl rfl ?_
 repeat' (first 
  | (with_reducible refine Rets.xcall (c _) ?_)
  | (simp -dsimp -implicitDefEqProofs [*]))
def r1B (s : Ses) : Bool := q53 k1h s.judges && s.judges.all fun n => wiL n 256
def r2B (s : Ses) : Bool := q53 cJ s.sealed && s.sealed.all (q8l s)
def r3B (s : Ses) : Bool := q53 q98 s.keys && s.keys.all (q7d s)
def r4B (s : Ses) : Bool := q53 nJ s.shown && s.shown.all (q75 s)
def r5B (s : Ses) : Bool := q8j s || decide ((s.keys.length : Int) + s.shown.length = 0)
section
variable (s : Ses) (hL : s.Len) (q : Nat) (U : TypeId) (st : q5d)
theorem z7k (hL : s.Len) (hq : q5w st q = some (.arr U s.enc)) : Rets P F.q1v [.ptr q 0] st (.bool (r1B s)) := by
 have c1 := z7g F.q0z k1h false s.judges (by have := hL.judges; omega) st (fun x _ y _ st => k39 x y st)
 have c2 := j3v F.q1f [] (fun n => wiL n 256) false s.judges (by have := hL.judges; omega) st (fun x _ st _ => z5m x st)
 unfold r1B
 generalize q53 k1h s.judges = A at *
 generalize (s.judges.all fun n => wiL n 256) = B at *
 refine H.q1v.pure q5n rfl rfl ?_
 repeat' (first 
  | (with_reducible refine Rets.xcall (c1) ?_)
  | (with_reducible refine Rets.xcall (c2) ?_)
  | (with_reducible refine And.intro (fun h => ?_) (fun h => ?_)) <;> (try (exfalso; omega))
  | (simp -dsimp -implicitDefEqProofs [*]))
theorem z7l (hL : s.Len) (hq : q5w st q = some (.arr U s.enc)) : Rets P F.q1w [.ptr q 0] st (.bool (r2B s)) := by
 have c1 := z7h F.q2k cJ false s.sealed (by have := hL.sealed; omega) st (fun x _ y _ st => k47 x y st)
 have c2 := j3x F.q1r [s.pv] (q8l s) false s.sealed (by have := hL.sealed; omega) st (fun x hx st _ => k67 s hL.judges x (hL.cards x hx) st)
 unfold r2B
 generalize q53 cJ s.sealed = A at *
 generalize s.sealed.all (q8l s) = B at *
 refine H.q1w.pure q5n rfl rfl ?_
 repeat' (first 
  | (with_reducible refine Rets.xcall (c1) ?_)
  | (with_reducible refine Rets.xcall (c2) ?_)
  | (with_reducible refine And.intro (fun h => ?_) (fun h => ?_)) <;> (try (exfalso; omega))
  | (simp -dsimp -implicitDefEqProofs [*]))
theorem z7m (hL : s.Len) (hq : q5w st q = some (.arr U s.enc)) : Rets P F.q1x [.ptr q 0] st (.bool (r3B s)) := by
 have c1 := z7i F.q2b q98 false s.keys (by have := hL.keys; omega) st (fun x _ y _ st => k3t x y st)
 have c2 := j3z F.q1i [s.pv] (q7d s) false s.keys (by have := hL.keys; omega) st (fun x _ st _ => k5a s hL.judges x st)
 unfold r3B
 generalize q53 q98 s.keys = A at *
 generalize s.keys.all (q7d s) = B at *
 refine H.q1x.pure q5n rfl rfl ?_
 repeat' (first 
  | (with_reducible refine Rets.xcall (c1) ?_)
  | (with_reducible refine Rets.xcall (c2) ?_)
  | (with_reducible refine And.intro (fun h => ?_) (fun h => ?_)) <;> (try (exfalso; omega))
  | (simp -dsimp -implicitDefEqProofs [*]))
theorem z7n (hL : s.Len) (hr : q53 cJ s.sealed = true) (hG : GL st) (hq : q5w st q = some (.arr U s.enc)) : Rets P F.q1y [.ptr q 0] st (.bool (r4B s)) := by
 have c1 := z7j F.q2c nJ false s.shown (by have := hL.shown; omega) st (fun x _ y _ st => k3s x y st)
 have c2 := j31 F.q1s [s.pv] (q75 s) false s.shown (by have := hL.shown; omega) st (fun x hx st hs => k68 s hL.sealed hL.cards hr x (hL.given x hx) st (hG.le hs))
 unfold r4B
 generalize q53 nJ s.shown = A at *
 generalize s.shown.all (q75 s) = B at *
 refine H.q1y.pure q5n rfl rfl ?_
 repeat' (first 
  | (with_reducible refine Rets.xcall (c1) ?_)
  | (with_reducible refine Rets.xcall (c2) ?_)
  | (with_reducible refine And.intro (fun h => ?_) (fun h => ?_)) <;> (try (exfalso; omega))
  | (simp -dsimp -implicitDefEqProofs [*]))
theorem z7o (hL : s.Len) (hq : q5w st q = some (.arr U s.enc)) : Rets P F.q1z [.ptr q 0] st (.bool (r5B s)) := by
 have c1 := q8k s
 have hk := hL.keys
 have hn := hL.shown
 have hw : IntKind.i64.wrap ((s.keys.length : Int) + s.shown.length) = (s.keys.length : Int) + s.shown.length := q5m (by omega) (by omega)
 unfold r5B
 generalize q8j s = A at *
 refine H.q1z.pure q5n rfl rfl ?_
 repeat' (first 
  | (with_reducible refine Rets.xcall (c1 _) ?_)
  | (with_reducible refine And.intro (fun h => ?_) (fun h => ?_)) <;> (try (exfalso; omega))
  | (simp -dsimp -implicitDefEqProofs [*]))
end
theorem z5n (s : Ses) : q67 s = (k03 s && (r1B s && (r2B s && (r3B s && (r4B s && r5B s))))) := rfl
theorem k90 (s : Ses) (hL : s.Len) (st : q5d) (hG : GL st) : Rets P F.q1m [s.pv] st (.bool (q67 s)) := by
 have hN := q6k hG.h0 hG.h1
 have hj := hL.judges
 have a1 := q61 s.round 8
 have a2 := q61 s.entry 4096
 have a3 := q61 (IntKind.i64.wrap (s.crits - 1)) 64
 have a4 := q61 (IntKind.i64.wrap ((s.judges.length : Int) - 1)) 24
 have a5 := q61 (IntKind.i64.wrap (s.need - 1)) s.judges.length
 have a6 := q61 s.deadline 2097152
 have a7 := q61 s.time 2097152
 rw [z3u hL.crits.1 hL.crits.2 (by omega)] at a3
 rw [z3u (by omega) (by omega) (by omega)] at a4
 rw [z3u hL.need.1 hL.need.2 (by omega)] at a5
 rw [z5n]
 unfold k03
 generalize wiL s.round 8 = A1 at *
 generalize wiL s.entry 4096 = A2 at *
 generalize wiL (s.crits - 1) 64 = A3 at *
 generalize wiL ((s.judges.length : Int) - 1) 24 = A4 at *
 generalize wiL (s.need - 1) s.judges.length = A5 at *
 generalize wiL s.deadline 2097152 = A6 at *
 generalize wiL s.time 2097152 = A7 at *
 refine H.q1m.view q5n rfl rfl ?_
 repeat' (first 
  | (with_reducible refine Fresh.intro fun b hb => ?_) <;> (try simp -dsimp -implicitDefEqProofs [*] at hb)
  | (with_reducible refine Rets.xcall (a1 _) ?_)
  | (with_reducible refine Rets.xcall (a2 _) ?_)
  | (with_reducible refine Rets.xcall (a3 _) ?_)
  | (with_reducible refine Rets.xcall (a4 _) ?_)
  | (with_reducible refine Rets.xcall (a5 _) ?_)
  | (with_reducible refine Rets.xcall (a6 _) ?_)
  | (with_reducible refine Rets.xcall (a7 _) ?_)
  | (with_reducible refine DrawLate.intro [] ?_)
  | (simp -dsimp -implicitDefEqProofs [*]))
 revert b; intro q hq
 obtain ⟨Bs, hB⟩ : ∃ Bs : List Bool, Bs = [A1, A2, A3, A4, A5, A6, A7] := ⟨_, rfl⟩
 have hBl : Bs.length = 7 := by rw [hB]; rfl
 have hBa : (A1 && A2 && A3 && A4 && A5 && A6 && A7) = Bs.all id := by rw [hB]; simp [Bool.and_assoc]
 have hBr : [PV.val (.bool A1), .val (.bool A2), .val (.bool A3), .val (.bool A4), .val (.bool A5), .val (.bool A6), .val (.bool A7)] = Bs.map PV.bool := by rw [hB]; rfl
 rw [hBa, hBr]
 obtain ⟨W, hW⟩ : ∃ W, W = Bs.all id := ⟨_, rfl⟩
 obtain ⟨RB, hRB⟩ : ∃ RB : List PV, RB = Bs.map PV.bool := ⟨_, rfl⟩
 rw [← hW, ← hRB]
 have hlm : RB.length = 7 := by rw [hRB]; simp [hBl]
 have kR : Hid (∀ n (h : n < Bs.length), RB[n]? = some (.bool Bs[n])) := ⟨fun n h => by rw [hRB]; simp [h]⟩
 clear a1 a2 a3 a4 a5 a6 a7 hB hBa hBr hRB
 refine q5g (fun n : Nat => [(0, s.pv), (1, .ptr q 0), (43, .list true RB 7), (44, .int 7), (45, .int n)]) (fun _ => (q, .arr T.q47 s.enc) :: st) (fun n => n ≤ 7 ∧ Hid (∀ j (h : j < Bs.length), j < n → Bs[j] = true)) (fun n => 7 - n) 0 ⟨Nat.zero_le _, ⟨fun j _ h => absurd h (by omega)⟩⟩ (by simp) (.refl _) ?_
 rintro n ⟨hn, hI⟩
 by_cases hn7 : n < 7
 ·have hw := q5h (n := n) (by omega)
  have hnb : n < Bs.length := by omega
  have g1 := kR.out n hnb
  have h1 : Hid (Bs[n] = true → ∀ j (h : j < Bs.length), j < n + 1 → Bs[j] = true) := ⟨fun h j hj h2 => if e : j = n then by subst e; exact h else hI.out j hj (by omega)⟩
  have h2 : Hid (Bs[n] = false → W = false) := ⟨fun h => by rw [hW]; exact Bool.eq_false_iff.2 fun e => by have := List.all_eq_true.1 e _ (List.getElem_mem hnb); rw [id, h] at this; cases this⟩
  obtain ⟨v, hv⟩ : ∃ v, v = Bs[n] := ⟨_, rfl⟩
  rw [← hv] at g1 h1 h2
  have g2 : ∀ h, RB[n]'h = .bool v := fun h => by have := List.getElem?_eq_getElem h; rw [g1] at this; exact (Option.some.inj this).symm
  have hn7i : (n : Int) < 7 := by omega
  clear hW hI hv kR
  cases v with
  | false =>
   have e := h2.out rfl
   subst e
   clear h1 h2
   repeat' (simp -dsimp -implicitDefEqProofs [*])
   exact RetView.drop (st' := st) q5q ⟨by simp, rfl⟩
  | true =>
   have e := Hid.mk (h1.out rfl)
   clear h1 h2
   repeat' (simp -dsimp -implicitDefEqProofs [*])
   exact Next.intro (n + 1) ⟨by omega, e⟩ (by omega) (by simp) q5q
 have hWt : W = true := by
  rw [hW]
  refine List.all_eq_true.2 fun x hx => ?_
  obtain ⟨j, hj, rfl⟩ := List.mem_iff_getElem.1 hx
  exact hI.out j hj (by omega)
 subst hWt
 obtain rfl : n = 7 := by omega
 have hGq := hG.cons (b := q) (o := .arr T.q47 s.enc) (by rw [hN]; exact hq)
 have c1 := z7k s q T.q47 ((q, .arr T.q47 s.enc) :: st) hL (by simp)
 have c2 := z7l s q T.q47 ((q, .arr T.q47 s.enc) :: st) hL (by simp)
 have c3 := z7m s q T.q47 ((q, .arr T.q47 s.enc) :: st) hL (by simp)
 have c4 := fun hr => z7n s q T.q47 ((q, .arr T.q47 s.enc) :: st) hL hr hGq (by simp)
 have c5 := z7o s q T.q47 ((q, .arr T.q47 s.enc) :: st) hL (by simp)
 have hr : r2B s = true → q53 cJ s.sealed = true := fun h => by unfold r2B at h; exact (Bool.and_eq_true_iff.1 h).1
 generalize r1B s = W1 at *
 generalize r2B s = W2 at *
 generalize r3B s = W3 at *
 generalize r4B s = W4 at *
 generalize r5B s = W5 at *
 have w5 : IntKind.i64.wrap 5 = 5 := by decide
 have w4 : IntKind.i64.wrap 4 = 4 := by decide
 have w3 : IntKind.i64.wrap 3 = 3 := by decide
 have w2 : IntKind.i64.wrap 2 = 2 := by decide
 have w1 : IntKind.i64.wrap 1 = 1 := by decide
 clear hn hn7 hI kR hW hGq hG hL
 repeat' (first 
  | (with_reducible refine Lit.imm ?_)
  | (simp -dsimp -implicitDefEqProofs [*]))
 refine q5g (fun n : Nat => [(0, s.pv), (1, .ptr q 0), (57, .list true [.func (.func F.q1v) [] [.ptr q 0], .func (.func F.q1w) [] [.ptr q 0], .func (.func F.q1x) [] [.ptr q 0], .func (.func F.q1y) [] [.ptr q 0], .func (.func F.q1z) [] [.ptr q 0]] 5), (58, .int 5), (59, .int n)]) (fun _ => (q, .arr T.q47 s.enc) :: st) (fun n => n ≤ 5 ∧ (0 < n → W1 = true) ∧ (1 < n → W2 = true) ∧ (2 < n → W3 = true) ∧ (3 < n → W4 = true) ∧ (4 < n → W5 = true)) (fun n => 5 - n) 0 ⟨Nat.zero_le _, by omega, by omega, by omega, by omega, by omega⟩ (by simp) (.refl _) ?_
 rintro n ⟨hn, i1, i2, i3, i4, i5⟩
 rcases (show n = 0 ∨ n = 1 ∨ n = 2 ∨ n = 3 ∨ n = 4 ∨ n = 5 by omega) with rfl | rfl | rfl | rfl | rfl | rfl
 ·clear i1 i2 i3 i4 i5
  clear c2 c3 c4 c5 hr
  cases W1 with
  | false =>
   repeat' (first 
    | (with_reducible refine Rets.xcall (c1) ?_)
    | (simp -dsimp -implicitDefEqProofs [*]))
   exact RetView.drop (st' := st) q5q ⟨by simp, rfl⟩
  | true =>
   repeat' (first 
    | (with_reducible refine Rets.xcall (c1) ?_)
    | (simp -dsimp -implicitDefEqProofs [*]))
   exact Next.intro 1 ⟨by omega, fun _ => rfl, by omega, by omega, by omega, by omega⟩ (by omega) (by simp [w1]) q5q
 ·have j1 := i1 (by omega)
  clear i1 i2 i3 i4 i5
  subst j1
  clear c1 c3 c4 c5 hr
  cases W2 with
  | false =>
   repeat' (first 
    | (with_reducible refine Rets.xcall (c2) ?_)
    | (simp -dsimp -implicitDefEqProofs [*]))
   exact RetView.drop (st' := st) q5q ⟨by simp, rfl⟩
  | true =>
   repeat' (first 
    | (with_reducible refine Rets.xcall (c2) ?_)
    | (simp -dsimp -implicitDefEqProofs [*]))
   exact Next.intro 2 ⟨by omega, fun _ => rfl, fun _ => rfl, by omega, by omega, by omega⟩ (by omega) (by simp [w2]) q5q
 ·have j1 := i1 (by omega)
  have j2 := i2 (by omega)
  clear i1 i2 i3 i4 i5
  subst j1
  subst j2
  clear c1 c2 c4 c5 hr
  cases W3 with
  | false =>
   repeat' (first 
    | (with_reducible refine Rets.xcall (c3) ?_)
    | (simp -dsimp -implicitDefEqProofs [*]))
   exact RetView.drop (st' := st) q5q ⟨by simp, rfl⟩
  | true =>
   repeat' (first 
    | (with_reducible refine Rets.xcall (c3) ?_)
    | (simp -dsimp -implicitDefEqProofs [*]))
   exact Next.intro 3 ⟨by omega, fun _ => rfl, fun _ => rfl, fun _ => rfl, by omega, by omega⟩ (by omega) (by simp [w3]) q5q
 ·have j1 := i1 (by omega)
  have j2 := i2 (by omega)
  have j3 := i3 (by omega)
  clear i1 i2 i3 i4 i5
  subst j1
  subst j2
  subst j3
  have c4 := c4 (hr rfl)
  clear c1 c2 c3 c5 hr
  cases W4 with
  | false =>
   repeat' (first 
    | (with_reducible refine Rets.xcall (c4) ?_)
    | (simp -dsimp -implicitDefEqProofs [*]))
   exact RetView.drop (st' := st) q5q ⟨by simp, rfl⟩
  | true =>
   repeat' (first 
    | (with_reducible refine Rets.xcall (c4) ?_)
    | (simp -dsimp -implicitDefEqProofs [*]))
   exact Next.intro 4 ⟨by omega, fun _ => rfl, fun _ => rfl, fun _ => rfl, fun _ => rfl, by omega⟩ (by omega) (by simp [w4]) q5q
 ·have j1 := i1 (by omega)
  have j2 := i2 (by omega)
  have j3 := i3 (by omega)
  have j4 := i4 (by omega)
  clear i1 i2 i3 i4 i5
  subst j1
  subst j2
  subst j3
  subst j4
  clear c1 c2 c3 c4 hr
  cases W5 with
  | false =>
   repeat' (first 
    | (with_reducible refine Rets.xcall (c5) ?_)
    | (simp -dsimp -implicitDefEqProofs [*]))
   exact RetView.drop (st' := st) q5q ⟨by simp, rfl⟩
  | true =>
   repeat' (first 
    | (with_reducible refine Rets.xcall (c5) ?_)
    | (simp -dsimp -implicitDefEqProofs [*]))
   exact Next.intro 5 ⟨by omega, fun _ => rfl, fun _ => rfl, fun _ => rfl, fun _ => rfl, fun _ => rfl⟩ (by omega) (by simp [w5]) q5q
 ·have j1 := i1 (by omega)
  have j2 := i2 (by omega)
  have j3 := i3 (by omega)
  have j4 := i4 (by omega)
  have j5 := i5 (by omega)
  clear i1 i2 i3 i4 i5 c1 c2 c3 c4 c5 hr
  subst j1
  subst j2
  subst j3
  subst j4
  subst j5
  repeat' (simp -dsimp -implicitDefEqProofs [*])
  exact RetView.drop (st' := st) q5q ⟨by simp, rfl⟩
end Go.Proofs.YtnooplpbpfiapaaGreatDoor
