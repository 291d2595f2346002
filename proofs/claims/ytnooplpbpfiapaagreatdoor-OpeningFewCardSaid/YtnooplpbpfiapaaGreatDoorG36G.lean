/- Lists of Shn that rise, and what holds for all of them. -/
import Derived.Test.YtnooplpbpfiapaaGreatDoorG36A
import Derived.Test.YtnooplpbpfiapaaGreatDoorG36P
namespace Go.Proofs.YtnooplpbpfiapaaGreatDoor
open Go.Pv
set_option maxRecDepth 100000
set_option maxHeartbeats 4000000
theorem z67 (g : FuncId) (c : Shn → Shn → Int) (t : Bool) (l : List Shn) (hl : l.length ≤ 9223372036854775807) (st : q43) (hg : ∀ x ∈ l, ∀ y ∈ l, ∀ st, Rets P g [x.pv, y.pv] st (.int (c x y))) : Rets P F.q2c [Shn.lst t l, .func (.func g) [] []] st (.bool (q5s c l)) := by
 obtain ⟨w, hw⟩ : ∃ w, w = q5s c l := ⟨_, rfl⟩
 rw [← hw]
 have kw : Hid (w = true ↔ ∀ i (h : i + 1 < l.length), c l[i] l[i + 1] < 0) := ⟨by rw [hw]; exact q7r c l⟩
 clear hw
 refine H.q2c.view q5d rfl rfl ?_
 repeat' (simp -dsimp -implicitDefEqProofs [*])
 refine q46 (fun n : Nat => [(0, Shn.lst t l), (1, .func (.func g) [] []), (5, .int n)]) (fun _ => st) (fun n => 1 ≤ n ∧ n ≤ max 1 l.length ∧ Hid (∀ i (_ : i + 1 < n) (h : i + 1 < l.length), c l[i] l[i + 1] < 0)) (fun n => l.length - n) 1 ⟨Nat.le_refl _, by omega, ⟨fun i h => absurd h (by omega)⟩⟩ (by simp) (.refl _) ?_
 rintro n ⟨hn1, hn, hI⟩
 by_cases hnl : n < l.length
 ·obtain ⟨m, rfl⟩ : ∃ m, n = m + 1 := ⟨n - 1, by omega⟩
  have hml : m < l.length := by omega
  have hw := q47 (n := m + 1) (by omega)
  have wk : IntKind.i64.wrap (((m + 1 : Nat) : Int) - 1) = (m : Int) := by rw [q5c (by omega) (by omega)]; omega
  have hc := hg l[m] (List.getElem_mem hml) l[m + 1] (List.getElem_mem hnl)
  have s0 := Shn.row_sub l m hml
  have s1 := Shn.row_sub l (m + 1) hnl
  have hst : Hid (c l[m] l[m + 1] < 0 → ∀ i (_ : i + 1 < m + 2) (h : i + 1 < l.length), c l[i] l[i + 1] < 0) := ⟨fun h i hi h2 => if e : i = m then by subst e; exact h else hI.out i (by omega) h2⟩
  have hno : Hid (¬ c l[m] l[m + 1] < 0 → w = false) := ⟨fun h => Bool.eq_false_iff.2 fun e => h (kw.out.1 e m hnl)⟩
  obtain ⟨x, hx⟩ : ∃ x, x = l[m] := ⟨_, rfl⟩
  obtain ⟨y, hy⟩ : ∃ y, y = l[m + 1] := ⟨_, rfl⟩
  rw [← hx, ← hy] at hc hst hno
  rw [← hx] at s0
  rw [← hy] at s1
  obtain ⟨v, hv⟩ : ∃ v, v = c x y := ⟨_, rfl⟩
  rw [← hv] at hc hst hno
  obtain ⟨n, hnk⟩ : ∃ n, n = m + 1 := ⟨_, rfl⟩
  have hst2 : Hid (v < 0 → ∀ i (_ : i + 1 < n + 1) (h : i + 1 < l.length), c l[i] l[i + 1] < 0) := ⟨by rw [hnk]; exact hst.out⟩
  rw [← hnk] at hw wk hnl s1 ⊢
  have hn2 : n * 34 < l.length * 34 ∧ m * 34 < l.length * 34 := by omega
  clear hI hg hx hy hv hnk hst kw hn1 hn
  by_cases h : v < 0
  ·have h3 := Hid.mk (hst2.out h)
   clear hst2 hno
   repeat' (first 
    | (with_reducible refine Rets.xcall (hc _) ?_)
    | (with_reducible refine DrawLate.intro [] ?_)
    | (with_reducible refine And.intro (fun h => ?_) ?_) <;> (try (exfalso; omega))
    | (simp -dsimp -implicitDefEqProofs [*]))
   exact Next.intro (n + 1) ⟨by omega, by omega, h3⟩ (by omega) (by simp) q5l
  ·have h3 := hno.out h
   have h4 : 0 ≤ v := by omega
   subst h3
   clear hst2 hno
   repeat' (first 
    | (with_reducible refine Rets.xcall (hc _) ?_)
    | (with_reducible refine DrawLate.intro [] ?_)
    | (simp -dsimp -implicitDefEqProofs [*]))
   exact .same ⟨rfl, rfl⟩
 ·have hw : w = true := kw.out.2 fun i h => hI.out i (by omega) h
  subst hw
  have hnl2 : ¬ (n : Int) < l.length := by omega
  clear hI kw hg hn hnl
  repeat' (simp -dsimp -implicitDefEqProofs [*])
  exact .same ⟨rfl, rfl⟩
theorem j3r (g : FuncId) (cs : List PV) (p : Shn → Bool) (t : Bool) (l : List Shn) (hl : l.length ≤ 9223372036854775807) (st : q43) (hf : ∀ x ∈ l, Rets P g (x.pv :: cs) st (.bool (p x))) : Rets P F.q0x [Shn.lst t l, .func (.func g) [] cs] st (.int (k7j p l)) := by
 refine H.q0x.view q5d rfl rfl ?_
 repeat' (simp -dsimp -implicitDefEqProofs [*])
 refine q46 (fun n : Nat => [(0, Shn.lst t l), (1, .func (.func g) [] cs), (7, .int l.length), (8, .int n)]) (fun _ => st) (fun n => n ≤ l.length ∧ Hid (∀ j (_ : j < n) (hl : j < l.length), p l[j] = false)) (fun n => l.length - n) 0 ⟨Nat.zero_le _, ⟨fun j hj => absurd hj (by omega)⟩⟩ (by simp) (.refl _) ?_
 rintro n ⟨hn, he2⟩
 by_cases hnl : n < l.length
 ·have hw := q47 (n := n) (by omega)
  have hf1 := hf l[n] (List.getElem_mem hnl)
  have hi : Hid (p l[n] = true → k7j p l = n) := ⟨fun hp => q9c hnl (fun j hj => he2.out j hj (by omega)) hp⟩
  have hno : Hid (p l[n] = false → ∀ j (_ : j < n + 1) (hl : j < l.length), p l[j] = false) := ⟨fun hp j hj hl => if h : j = n then by subst h; exact hp else he2.out j (by omega) hl⟩
  have s0 := Shn.row_sub l n hnl
  have hn2 : n * 34 < l.length * 34 := by omega
  clear hf he2
  cases hp : p l[n] with
  | true =>
   rw [hp] at hf1
   have e := hi.out hp
   rw [e]
   clear hp hi hno
   repeat' (first 
    | (with_reducible refine Rets.xcall (hf1) ?_)
    | (simp -dsimp -implicitDefEqProofs [*]))
   exact .same ⟨rfl, rfl⟩
  | false =>
   rw [hp] at hf1
   have e : Hid _ := ⟨hno.out hp⟩
   clear hp hi hno
   repeat' (first 
    | (with_reducible refine Rets.xcall (hf1) ?_)
    | (simp -dsimp -implicitDefEqProofs [*]))
   exact Next.intro (n + 1) ⟨by omega, e⟩ (by omega) (by simp) q5l
 ·have e : n = l.length := by omega
  subst e
  have hi : Hid (k7j p l = -1) := ⟨k0n fun j hj => he2.out j hj hj⟩
  rw [hi.out]
  clear hf he2
  repeat' (simp -dsimp -implicitDefEqProofs [*])
  exact .same ⟨rfl, rfl⟩
theorem j0j (g : FuncId) (cs : List PV) (p : Shn → Bool) (t : Bool) (l : List Shn) (hl : l.length ≤ 9223372036854775807) (st : q43) (hf : ∀ x ∈ l, Rets P g (x.pv :: cs) st (.bool (p x))) : Rets P F.q0r [Shn.lst t l, .func (.func g) [] cs] st (.bool (l.any p)) := by
 have hi := j3r g cs p t l hl st hf
 have e := k5w p l
 rw [← e]
 obtain ⟨v, hv⟩ : ∃ v, v = k7j p l := ⟨_, rfl⟩
 rw [← hv] at hi ⊢
 clear hv e hf
 refine H.q0r.pure q5d rfl rfl ?_
 repeat' (first 
  | (with_reducible refine Rets.xcall (hi) ?_)
  | (simp -dsimp -implicitDefEqProofs [*]))
theorem j0k (g : FuncId) (fs : List PV) (p0 : Nat) (U : TypeId) (w : Bool) (x : Shn) (st0 st : q43) (hp0 : q6h st0 p0) (hs : st = (p0, .arr U [.func (.func g) fs []]) :: st0) (hg : ∀ st, StLe st0 st → Rets P g (fs ++ [x.pv]) st (.bool w)) : Rets P F.q1z [x.pv, .ptr p0 0] st (.bool (!w)) := by
 subst hs
 refine H.q1z.pure q5d rfl rfl ?_
 repeat' (first 
  | (with_reducible refine Fresh.intro fun b hb => ?_) <;> (try simp -dsimp -implicitDefEqProofs [*] at hb)
  | (simp -dsimp -implicitDefEqProofs [*]))
 have hg1 := hg ((b, .arr T.apiShown x.enc) :: (p0, .arr U [.func (.func g) fs []]) :: st0) (.trans (.fresh hp0) (.fresh (by simp [*])))
 repeat' (first 
  | (with_reducible refine Rets.xcall (hg1) ?_)
  | (simp -dsimp -implicitDefEqProofs [*]))
theorem j3s (g : FuncId) (fs : List PV) (p : Shn → Bool) (t : Bool) (l : List Shn) (hl : l.length ≤ 9223372036854775807) (st : q43) (hg : ∀ x ∈ l, ∀ st', StLe st st' → Rets P g (fs ++ [x.pv]) st' (.bool (p x))) : Rets P F.q2r [Shn.lst t l, .func (.func g) fs []] st (.bool (l.all p)) := by
 refine H.q2r.pure q5d rfl rfl ?_
 repeat' (first 
  | (with_reducible refine Fresh.intro fun b hb => ?_) <;> (try simp -dsimp -implicitDefEqProofs [*] at hb)
  | (simp -dsimp -implicitDefEqProofs [*]))
 have hc := j0j F.q1z [.ptr b 0] (fun x => !p x) t l hl ((b, .arr T.q41 [.func (.func g) fs []]) :: st) (fun x hx => j0k g fs b _ (p x) x st _ hb rfl (hg x hx))
 have e : (!l.any fun x => !p x) = l.all p := by rw [List.all_eq_not_any_not]
 rw [← e]
 generalize (l.any fun x => !p x) = w at *
 clear hg e
 repeat' (first 
  | (with_reducible refine Rets.xcall (hc) ?_)
  | (simp -dsimp -implicitDefEqProofs [*]))
open Go.Pv
set_option maxRecDepth 100000
set_option maxHeartbeats 4000000
theorem z3n (g : FuncId) (c : Card → Int) (y : Int) (t : Bool) (l : List Card) (hl : l.length ≤ 1024) (hm : Falls c l) (st : q43) (hg : ∀ x ∈ l, ∀ st', StLe st st' → Rets P g [x.pv, .int y] st' (.int (c x))) : Rets P F.q0g [Card.lst t l, .int y, .func (.func g) [] []] st (.tuple [.int (q97 c l), .bool (k7k c l)]) := by
 refine H.q0g.view q5d rfl rfl ?_
 repeat' (simp -dsimp -implicitDefEqProofs [*])
 refine q46 (fun x : Nat × Nat => [(0, Card.lst t l), (1, .int y), (2, .func (.func g) [] []), (8, .int l.length), (9, .int (x.1 : Nat)), (10, .int (x.2 : Nat))]) (fun _ => st)
  (fun x => x.1 ≤ x.2 ∧ x.2 ≤ l.length ∧ Hid ((∀ k, k < x.1 → ∀ h : k < l.length, c l[k] < 0) ∧ (∀ k, x.2 ≤ k → ∀ h : k < l.length, 0 ≤ c l[k]))) (fun x => x.2 - x.1) (0, l.length) ⟨Nat.zero_le _, Nat.le_refl _, ⟨fun k h => absurd h (by simp), fun k h1 h2 => absurd h1 (by simp only; omega)⟩⟩ (by simp) (.refl _) ?_
 rintro ⟨i, j⟩ ⟨h1, h2, h3⟩
 replace h1 : i ≤ j := h1
 replace h2 : j ≤ l.length := h2
 replace h3 : Hid ((∀ k, k < i → ∀ h : k < l.length, c l[k] < 0) ∧ (∀ k, j ≤ k → ∀ h : k < l.length, 0 ≤ c l[k])) := h3
 by_cases hij : i < j
 ·have hm1 : IntKind.i64.wrap ((i : Int) + j) = (i : Int) + j := q5c (by omega) (by omega)
  have hm2 : IntKind.u64.wrap ((i : Int) + j) = (i : Int) + j := q7q (by omega) (by omega)
  have hm3 := z4q (i := i) (j := j) (by omega)
  obtain ⟨m, hmd⟩ : ∃ m, m = (i + j) / 2 := ⟨_, rfl⟩
  rw [← hmd] at hm3
  have hm4 := q47 (n := m) (by omega)
  have him : i ≤ m ∧ m < j := by omega
  have hml : m < l.length := by omega
  have s0 := Card.row_sub l m hml
  have hk : m * 36 < l.length * 36 := by omega
  have hc := hg l[m] (List.getElem_mem hml) st (.refl _)
  have f1 : Hid (c l[m] < 0 → (∀ k, k < m + 1 → ∀ h : k < l.length, c l[k] < 0) ∧ (∀ k, j ≤ k → ∀ h : k < l.length, 0 ≤ c l[k])) := ⟨fun hn => ⟨fun k hk h => if e : k = m then by subst e; exact hn else hm.out k m (by omega) hml hn (h' := h), h3.out.2⟩⟩
  have f2 : Hid (0 ≤ c l[m] → (∀ k, k < i → ∀ h : k < l.length, c l[k] < 0) ∧ (∀ k, m ≤ k → ∀ h : k < l.length, 0 ≤ c l[k])) := ⟨fun hp => ⟨h3.out.1, fun k hk h => Int.not_lt.1 fun hn => by
   by_cases e : k = m
   ·subst e; omega
   ·have := hm.out m k (by omega) h hn (h' := hml); omega⟩⟩
  obtain ⟨x, hx⟩ : ∃ x, x = l[m] := ⟨_, rfl⟩
  rw [← hx] at s0 hc f1 f2
  obtain ⟨v, hv⟩ : ∃ v, v = c x := ⟨_, rfl⟩
  rw [← hv] at hc f1 f2
  clear hmd hx hv h3 hg hm
  by_cases hv0 : v < 0
  ·have h5 := Hid.mk (f1.out hv0)
   clear f1 f2
   repeat' (first 
    | (with_reducible refine Rets.xcall (hc) ?_)
    | (simp -dsimp -implicitDefEqProofs [*]))
   exact Next.intro (m + 1, j) ⟨by simp only; omega, h2, h5⟩ (by simp only; omega) (by simp) q5l
  ·have hv1 : 0 ≤ v := by omega
   have h5 := Hid.mk (f2.out hv1)
   clear f1 f2
   repeat' (first 
    | (with_reducible refine Rets.xcall (hc) ?_)
    | (simp -dsimp -implicitDefEqProofs [*]))
   exact Next.intro (i, m) ⟨by simp only; omega, by simp only; omega, h5⟩ (by simp only; omega) (by simp) q5l
 ·obtain rfl : j = i := by omega
  obtain ⟨e1, e2⟩ := k1q h2 h3.out.1 h3.out.2
  rw [← e1, e2]
  have kl : (j : Int) < l.length ↔ j < l.length := by omega
  clear h3
  by_cases hjl : j < l.length
  ·have s0 := Card.row_sub l j hjl
   have hk : j * 36 < l.length * 36 := by omega
   have hc := hg l[j] (List.getElem_mem hjl) st (.refl _)
   have hjl2 : (j : Int) < l.length := by omega
   rw [dif_pos hjl]
   obtain ⟨x, hx⟩ : ∃ x, x = l[j] := ⟨_, rfl⟩
   rw [← hx] at s0 hc ⊢
   obtain ⟨v, hv⟩ : ∃ v, v = c x := ⟨_, rfl⟩
   rw [← hv] at hc ⊢
   clear hx hv hg hm e1 e2 kl
   repeat' (first 
    | (with_reducible refine Rets.xcall (hc) ?_)
    | (simp -dsimp -implicitDefEqProofs [*]))
   exact .same ⟨rfl, rfl⟩
  ·have hjl2 : ¬ (j : Int) < l.length := by omega
   rw [dif_neg hjl]
   clear hg hm e1 e2 kl
   repeat' (simp -dsimp -implicitDefEqProofs [*])
   exact .same ⟨rfl, rfl⟩
open Go.Pv
set_option maxRecDepth 100000
set_option maxHeartbeats 8000000
structure GL (st : q43) : Prop where
 h0 : q5m st 0 = some (.arr T.t8uint32 Sha.start.row)
 h1 : q5m st 1 = some q8z
theorem GL.le {st st' : q43} (h : GL st) (k : StLe st st') : GL st' := ⟨k _ _ h.h0, k _ _ h.h1⟩
theorem GL.cons {st : q43} (h : GL st) {b : Nat} {o : PObj} (hb : q6h st b) : GL ((b, o) :: st) := h.le (.fresh hb)
def j3t : Option Card → PV
 | none => .agg k19
 | some x => x.pv
theorem z1p (s : Ses) (hl : s.sealed.length ≤ 1024) (hr : q5s cJ s.sealed = true) (n : Int) (st : q43) : Rets P F.q2e [s.pv, .int n] st (.tuple [j3t (q73 s n), .bool (q73 s n).isSome]) := by
 have hf := k6p hr n
 have cs := fun st => z3n F.q3p (fun x => k0s x.j n) n false s.sealed hl hf.weak st (fun x _ st _ => z5a x n st)
 have hfd := found hf
 rw [← j3k] at hfd
 have hfe : ∃ w i, k7k (fun x : Card => k0s x.j n) s.sealed = w ∧ q97 (fun x : Card => k0s x.j n) s.sealed = i ∧ (w = true → ∃ h : i < s.sealed.length, q73 s n = some s.sealed[i]) ∧ (w = false → q73 s n = none) := ⟨_, _, rfl, rfl, hfd⟩
 obtain ⟨w, i, e1, e2, hfd⟩ := hfe
 rw [e1, e2] at cs
 clear e1 e2 hf
 refine H.q2e.view q5d rfl rfl ?_
 cases w with
 | false =>
  rw [hfd.2 rfl]
  clear hfd
  repeat' (first 
   | (with_reducible refine Fresh.intro fun b hb => ?_) <;> (try simp -dsimp -implicitDefEqProofs [*] at hb)
   | (with_reducible refine Rets.xcall (cs _) ?_)
   | (simp -dsimp -implicitDefEqProofs [*]))
  exact RetView.drop (st' := st) q5l ⟨rfl, rfl⟩
 | true =>
  obtain ⟨hil, e⟩ := hfd.1 rfl
  rw [e]
  clear hfd e
  have s0 := Card.row_sub s.sealed i hil
  have hk : i * 36 < s.sealed.length * 36 := by omega
  obtain ⟨x, hx⟩ : ∃ x, x = s.sealed[i] := ⟨_, rfl⟩
  rw [← hx] at s0 ⊢
  clear hx
  repeat' (first 
   | (with_reducible refine Fresh.intro fun b hb => ?_) <;> (try simp -dsimp -implicitDefEqProofs [*] at hb)
   | (with_reducible refine Rets.xcall (cs _) ?_)
   | (simp -dsimp -implicitDefEqProofs [*]))
  exact RetView.drop (st' := st) q5l ⟨rfl, rfl⟩
theorem k6q (s : Ses) (hs : s.judges.length ≤ 100000) (x : Card) (hx : x.c.length ≤ 100000) (st : q43) : Rets P F.q1q [s.pv, x.pv] st (.bool (q74 s x)) := by
 have ck := fun st => j3c x.r x.e x.j false x.c hx x.d.1 x.d.2 st
 have cj := k6o s (by omega) x.j
 obtain ⟨A, hA⟩ : ∃ A, A = chk x.r x.e x.j x.c := ⟨_, rfl⟩
 obtain ⟨B, hB⟩ : ∃ B, B = decide (x.j ∈ s.judges) := ⟨_, rfl⟩
 unfold q74
 rw [← hA, ← hB]
 rw [← hB] at cj
 have ck2 : ∀ st, Rets P F.q37 [x.pv] st (.int (if A = true then 0 else 340)) := by rw [hA]; exact ck
 clear hA hB ck
 refine H.q1q.pure q5d rfl rfl ?_
 cases A with
 | false =>
  simp only [Bool.false_eq_true, if_false] at ck2
  repeat' (first 
   | (with_reducible refine Fresh.intro fun b hb => ?_) <;> (try simp -dsimp -implicitDefEqProofs [*] at hb)
   | (with_reducible refine Rets.xcall (ck2 _) ?_)
   | (simp -dsimp -implicitDefEqProofs [*]))
 | true =>
  simp only [if_true] at ck2
  repeat' (first 
   | (with_reducible refine Fresh.intro fun b hb => ?_) <;> (try simp -dsimp -implicitDefEqProofs [*] at hb)
   | (with_reducible refine Rets.xcall (ck2 _) ?_)
   | (with_reducible refine Rets.xcall (cj _) ?_)
   | (with_reducible refine And.intro (fun h => ?_) (fun h => ?_)) <;> (try (exfalso; omega))
   | (simp -dsimp -implicitDefEqProofs [*]))
theorem k4r (s : Ses) (hs : s.judges.length ≤ 100000) (x : Sh) (st : q43) : Rets P F.q1h [s.pv, x.pv] st (.bool (q6l s x)) := by
 have c1 := k6o s (by omega) x.o
 have c2 := k6o s (by omega) x.h
 obtain ⟨A, hA⟩ : ∃ A, A = decide (x.o ∈ s.judges) := ⟨_, rfl⟩
 obtain ⟨B, hB⟩ : ∃ B, B = decide (x.h ∈ s.judges) := ⟨_, rfl⟩
 have c3 := q6r x.c s.crits
 have c4 := q6r x.v 1073741789
 unfold q6l
 rw [← hA, ← hB]
 rw [← hA] at c1
 rw [← hB] at c2
 generalize wiL x.c s.crits = C at *
 generalize wiL x.v 1073741789 = D at *
 clear hA hB
 refine H.q1h.pure q5d rfl rfl ?_
 repeat' (first 
  | (with_reducible refine Fresh.intro fun b hb => ?_) <;> (try simp -dsimp -implicitDefEqProofs [*] at hb)
  | (with_reducible refine Rets.xcall (c1 _) ?_)
  | (with_reducible refine Rets.xcall (c2 _) ?_)
  | (with_reducible refine Rets.xcall (c3 _) ?_)
  | (with_reducible refine Rets.xcall (c4 _) ?_)
  | (with_reducible refine And.intro (fun h => ?_) (fun h => ?_)) <;> (try (exfalso; omega))
  | (simp -dsimp -implicitDefEqProofs [*]))
theorem k6r (s : Ses) (hl : s.sealed.length ≤ 1024) (hc : ∀ x ∈ s.sealed, x.c.length ≤ 100000) (hr : q5s cJ s.sealed = true) (x : Shn) (hx : x.k.length ≤ 100000) (st : q43) (hG : GL st) : Rets P F.q1r [s.pv, x.pv] st (.bool (q7t s x)) := by
 have cc := z1p s hl hr x.j
 have hN := q57 hG.h0 hG.h1
 have h0 := hG.h0
 have h1 := hG.h1
 obtain ⟨W, hW⟩ : ∃ W, W = q7t s x := ⟨_, rfl⟩
 rw [← hW]
 unfold q7t at hW
 refine H.q1r.pure q5d rfl rfl ?_
 have hm : ∀ y, q73 s x.j = some y → y.c.length ≤ 100000 := fun y hy => hc y (List.mem_of_find?_eq_some hy)
 cases hy : q73 s x.j with
 | none =>
  rw [hy] at cc hW
  replace hW : W = false := hW
  subst hW
  simp only [j3t, Option.isSome_none] at cc
  clear hm hy
  repeat' (first 
   | (with_reducible refine Fresh.intro fun b hb => ?_) <;> (try simp -dsimp -implicitDefEqProofs [*] at hb)
   | (with_reducible refine Rets.xcall (cc _) ?_)
   | (simp -dsimp -implicitDefEqProofs [*]))
 | some y =>
  rw [hy] at cc hW
  replace hW : W = (q9u y x).isSome := hW
  simp only [j3t, Option.isSome_some] at cc
  have hyl := hm y hy
  have co := fun st => z47 false false y.r y.e y.j y.c x.k hyl hx y.d.1 x.s.1 y.d.2 x.s.2 st
  have hb : (q9u y x).isSome = true → q55 y.r y.e y.j y.c x.k = true := by
   unfold q9u k4n
   cases q55 y.r y.e y.j y.c x.k <;> simp
  have co2 : ∀ st, q5m st 0 = some (.arr T.t8uint32 Sha.start.row) → q5m st 1 = some q8z → Rets P F.q4i [y.pv, q49 false x.k, .agg (q44 x.s.1)] st (.tuple [k50 (q9u y x), .bool (q9u y x).isSome, .int (if q55 y.r y.e y.j y.c x.k then 0 else 340)]) := co
  generalize q9u y x = O at *
  generalize q55 y.r y.e y.j y.c x.k = B at *
  clear hm hy co hyl hx hc hr hG
  subst hW
  cases O with
  | none =>
   clear hb
   simp only [k50, Option.isSome_none] at co2
   repeat' (first 
    | (with_reducible refine Fresh.intro fun b hb => ?_) <;> (try simp -dsimp -implicitDefEqProofs [*] at hb)
    | (with_reducible refine Rets.xcall (cc _) ?_)
    | (with_reducible refine Rets.xcall (co2 _ (by simp [*]) (by simp [*])) ?_)
    | (simp -dsimp -implicitDefEqProofs [*]))
  | some m =>
   obtain rfl := hb rfl
   clear hb
   simp only [k50, Option.isSome_some, if_true] at co2
   repeat' (first 
    | (with_reducible refine Fresh.intro fun b hb => ?_) <;> (try simp -dsimp -implicitDefEqProofs [*] at hb)
    | (with_reducible refine Rets.xcall (cc _) ?_)
    | (with_reducible refine Rets.xcall (co2 _ (by simp [*]) (by simp [*])) ?_)
    | (simp -dsimp -implicitDefEqProofs [*]))
open Go.Pv
set_option maxRecDepth 100000
set_option maxHeartbeats 8000000
theorem z5b (n : Int) (st : q43) : Rets P F.q1e [.int n] st (.bool (wiL n 256)) := by
 have c := q6r n 256
 refine H.q1e.pure q5d rfl rfl ?_
 repeat' (first 
  | (with_reducible refine Rets.xcall (c _) ?_)
  | (simp -dsimp -implicitDefEqProofs [*]))
def r1B (s : Ses) : Bool := q5s k0s s.judges && s.judges.all fun n => wiL n 256
def r2B (s : Ses) : Bool := q5s cJ s.sealed && s.sealed.all (q74 s)
def r3B (s : Ses) : Bool := q5s q9k s.keys && s.keys.all (q6l s)
def r4B (s : Ses) : Bool := q5s nJ s.shown && s.shown.all (q7t s)
def r5B (s : Ses) : Bool := q72 s || decide ((s.keys.length : Int) + s.shown.length = 0)
section
variable (s : Ses) (hL : s.Len) (q : Nat) (U : TypeId) (st : q43)
theorem z68 (hL : s.Len) (hq : q5m st q = some (.arr U s.enc)) : Rets P F.q1u [.ptr q 0] st (.bool (r1B s)) := by
 have c1 := z64 F.q00 k0s false s.judges (by have := hL.judges; omega) st (fun x _ y _ st => k3r x y st)
 have c2 := j3m F.q1e [] (fun n => wiL n 256) false s.judges (by have := hL.judges; omega) st (fun x _ st _ => z5b x st)
 unfold r1B
 generalize q5s k0s s.judges = A at *
 generalize (s.judges.all fun n => wiL n 256) = B at *
 refine H.q1u.pure q5d rfl rfl ?_
 repeat' (first 
  | (with_reducible refine Rets.xcall (c1) ?_)
  | (with_reducible refine Rets.xcall (c2) ?_)
  | (with_reducible refine And.intro (fun h => ?_) (fun h => ?_)) <;> (try (exfalso; omega))
  | (simp -dsimp -implicitDefEqProofs [*]))
theorem z69 (hL : s.Len) (hq : q5m st q = some (.arr U s.enc)) : Rets P F.q1v [.ptr q 0] st (.bool (r2B s)) := by
 have c1 := z65 F.q2h cJ false s.sealed (by have := hL.sealed; omega) st (fun x _ y _ st => k4p x y st)
 have c2 := j3o F.q1q [s.pv] (q74 s) false s.sealed (by have := hL.sealed; omega) st (fun x hx st _ => k6q s hL.judges x (hL.cards x hx) st)
 unfold r2B
 generalize q5s cJ s.sealed = A at *
 generalize s.sealed.all (q74 s) = B at *
 refine H.q1v.pure q5d rfl rfl ?_
 repeat' (first 
  | (with_reducible refine Rets.xcall (c1) ?_)
  | (with_reducible refine Rets.xcall (c2) ?_)
  | (with_reducible refine And.intro (fun h => ?_) (fun h => ?_)) <;> (try (exfalso; omega))
  | (simp -dsimp -implicitDefEqProofs [*]))
theorem z7a (hL : s.Len) (hq : q5m st q = some (.arr U s.enc)) : Rets P F.q1w [.ptr q 0] st (.bool (r3B s)) := by
 have c1 := z66 F.q2a q9k false s.keys (by have := hL.keys; omega) st (fun x _ y _ st => k3d x y st)
 have c2 := j3q F.q1h [s.pv] (q6l s) false s.keys (by have := hL.keys; omega) st (fun x _ st _ => k4r s hL.judges x st)
 unfold r3B
 generalize q5s q9k s.keys = A at *
 generalize s.keys.all (q6l s) = B at *
 refine H.q1w.pure q5d rfl rfl ?_
 repeat' (first 
  | (with_reducible refine Rets.xcall (c1) ?_)
  | (with_reducible refine Rets.xcall (c2) ?_)
  | (with_reducible refine And.intro (fun h => ?_) (fun h => ?_)) <;> (try (exfalso; omega))
  | (simp -dsimp -implicitDefEqProofs [*]))
theorem z7b (hL : s.Len) (hr : q5s cJ s.sealed = true) (hG : GL st) (hq : q5m st q = some (.arr U s.enc)) : Rets P F.q1x [.ptr q 0] st (.bool (r4B s)) := by
 have c1 := z67 F.q2b nJ false s.shown (by have := hL.shown; omega) st (fun x _ y _ st => k3c x y st)
 have c2 := j3s F.q1r [s.pv] (q7t s) false s.shown (by have := hL.shown; omega) st (fun x hx st hs => k6r s hL.sealed hL.cards hr x (hL.given x hx) st (hG.le hs))
 unfold r4B
 generalize q5s nJ s.shown = A at *
 generalize s.shown.all (q7t s) = B at *
 refine H.q1x.pure q5d rfl rfl ?_
 repeat' (first 
  | (with_reducible refine Rets.xcall (c1) ?_)
  | (with_reducible refine Rets.xcall (c2) ?_)
  | (with_reducible refine And.intro (fun h => ?_) (fun h => ?_)) <;> (try (exfalso; omega))
  | (simp -dsimp -implicitDefEqProofs [*]))
theorem z7c (hL : s.Len) (hq : q5m st q = some (.arr U s.enc)) : Rets P F.q1y [.ptr q 0] st (.bool (r5B s)) := by
 have c1 := q79 s
 have hk := hL.keys
 have hn := hL.shown
 have hw : IntKind.i64.wrap ((s.keys.length : Int) + s.shown.length) = (s.keys.length : Int) + s.shown.length := q5c (by omega) (by omega)
 unfold r5B
 generalize q72 s = A at *
 refine H.q1y.pure q5d rfl rfl ?_
 repeat' (first 
  | (with_reducible refine Rets.xcall (c1 _) ?_)
  | (with_reducible refine And.intro (fun h => ?_) (fun h => ?_)) <;> (try (exfalso; omega))
  | (simp -dsimp -implicitDefEqProofs [*]))
end
theorem z5c (s : Ses) : q67 s = (k0o s && (r1B s && (r2B s && (r3B s && (r4B s && r5B s))))) := rfl
theorem k9m (s : Ses) (hL : s.Len) (st : q43) (hG : GL st) : Rets P F.q1l [s.pv] st (.bool (q67 s)) := by
 have hN := q57 hG.h0 hG.h1
 have hj := hL.judges
 have a1 := q6r s.round 8
 have a2 := q6r s.entry 4096
 have a3 := q6r (IntKind.i64.wrap (s.crits - 1)) 64
 have a4 := q6r (IntKind.i64.wrap ((s.judges.length : Int) - 1)) 24
 have a5 := q6r (IntKind.i64.wrap (s.need - 1)) s.judges.length
 have a6 := q6r s.deadline 2097152
 have a7 := q6r s.time 2097152
 rw [z3m hL.crits.1 hL.crits.2 (by omega)] at a3
 rw [z3m (by omega) (by omega) (by omega)] at a4
 rw [z3m hL.need.1 hL.need.2 (by omega)] at a5
 rw [z5c]
 unfold k0o
 generalize wiL s.round 8 = A1 at *
 generalize wiL s.entry 4096 = A2 at *
 generalize wiL (s.crits - 1) 64 = A3 at *
 generalize wiL ((s.judges.length : Int) - 1) 24 = A4 at *
 generalize wiL (s.need - 1) s.judges.length = A5 at *
 generalize wiL s.deadline 2097152 = A6 at *
 generalize wiL s.time 2097152 = A7 at *
 refine H.q1l.view q5d rfl rfl ?_
 repeat' (first 
  | (with_reducible refine Fresh.intro fun b hb => ?_) <;> (try simp -dsimp -implicitDefEqProofs [*] at hb)
  | (with_reducible refine Rets.xcall (a1 _) ?_)
  | (with_reducible refine Rets.xcall (a2 _) ?_)
  | (with_reducible refine Rets.xcall (a3 _) ?_)
  | (with_reducible refine Rets.xcall (a4 _) ?_)
  | (with_reducible refine Rets.xcall (a5 _) ?_)
  | (with_reducible refine Rets.xcall (a6 _) ?_)
  | (with_reducible refine Rets.xcall (a7 _) ?_)
  | (with_reducible refine DrawLate.intro [] ?_)
  | (simp -dsimp -implicitDefEqProofs [*]))
 revert b; intro q hq
 obtain ⟨Bs, hB⟩ : ∃ Bs : List Bool, Bs = [A1, A2, A3, A4, A5, A6, A7] := ⟨_, rfl⟩
 have hBl : Bs.length = 7 := by rw [hB]; rfl
 have hBa : (A1 && A2 && A3 && A4 && A5 && A6 && A7) = Bs.all id := by rw [hB]; simp [Bool.and_assoc]
 have hBr : [PV.val (.bool A1), .val (.bool A2), .val (.bool A3), .val (.bool A4), .val (.bool A5), .val (.bool A6), .val (.bool A7)] = Bs.map PV.bool := by rw [hB]; rfl
 rw [hBa, hBr]
 obtain ⟨W, hW⟩ : ∃ W, W = Bs.all id := ⟨_, rfl⟩
 obtain ⟨RB, hRB⟩ : ∃ RB : List PV, RB = Bs.map PV.bool := ⟨_, rfl⟩
 rw [← hW, ← hRB]
 have hlm : RB.length = 7 := by rw [hRB]; simp [hBl]
 have kR : Hid (∀ n (h : n < Bs.length), RB[n]? = some (.bool Bs[n])) := ⟨fun n h => by rw [hRB]; simp [h]⟩
 clear a1 a2 a3 a4 a5 a6 a7 hB hBa hBr hRB
 refine q46 (fun n : Nat => [(0, s.pv), (1, .ptr q 0), (43, .list true RB 7), (44, .int 7), (45, .int n)]) (fun _ => (q, .arr T.q4x s.enc) :: st) (fun n => n ≤ 7 ∧ Hid (∀ j (h : j < Bs.length), j < n → Bs[j] = true)) (fun n => 7 - n) 0 ⟨Nat.zero_le _, ⟨fun j _ h => absurd h (by omega)⟩⟩ (by simp) (.refl _) ?_
 rintro n ⟨hn, hI⟩
 by_cases hn7 : n < 7
 ·have hw := q47 (n := n) (by omega)
  have hnb : n < Bs.length := by omega
  have g1 := kR.out n hnb
  have h1 : Hid (Bs[n] = true → ∀ j (h : j < Bs.length), j < n + 1 → Bs[j] = true) := ⟨fun h j hj h2 => if e : j = n then by subst e; exact h else hI.out j hj (by omega)⟩
  have h2 : Hid (Bs[n] = false → W = false) := ⟨fun h => by rw [hW]; exact Bool.eq_false_iff.2 fun e => by have := List.all_eq_true.1 e _ (List.getElem_mem hnb); rw [id, h] at this; cases this⟩
  obtain ⟨v, hv⟩ : ∃ v, v = Bs[n] := ⟨_, rfl⟩
  rw [← hv] at g1 h1 h2
  have g2 : ∀ h, RB[n]'h = .bool v := fun h => by have := List.getElem?_eq_getElem h; rw [g1] at this; exact (Option.some.inj this).symm
  have hn7i : (n : Int) < 7 := by omega
  clear hW hI hv kR
  cases v with
  | false =>
   have e := h2.out rfl
   subst e
   clear h1 h2
   repeat' (simp -dsimp -implicitDefEqProofs [*])
   exact RetView.drop (st' := st) q5l ⟨by simp, rfl⟩
  | true =>
   have e := Hid.mk (h1.out rfl)
   clear h1 h2
   repeat' (simp -dsimp -implicitDefEqProofs [*])
   exact Next.intro (n + 1) ⟨by omega, e⟩ (by omega) (by simp) q5l
 have hWt : W = true := by
  rw [hW]
  refine List.all_eq_true.2 fun x hx => ?_
  obtain ⟨j, hj, rfl⟩ := List.mem_iff_getElem.1 hx
  exact hI.out j hj (by omega)
 subst hWt
 obtain rfl : n = 7 := by omega
 have hGq := hG.cons (b := q) (o := .arr T.q4x s.enc) (by rw [hN]; exact hq)
 have c1 := z68 s q T.q4x ((q, .arr T.q4x s.enc) :: st) hL (by simp)
 have c2 := z69 s q T.q4x ((q, .arr T.q4x s.enc) :: st) hL (by simp)
 have c3 := z7a s q T.q4x ((q, .arr T.q4x s.enc) :: st) hL (by simp)
 have c4 := fun hr => z7b s q T.q4x ((q, .arr T.q4x s.enc) :: st) hL hr hGq (by simp)
 have c5 := z7c s q T.q4x ((q, .arr T.q4x s.enc) :: st) hL (by simp)
 have hr : r2B s = true → q5s cJ s.sealed = true := fun h => by unfold r2B at h; exact (Bool.and_eq_true_iff.1 h).1
 generalize r1B s = W1 at *
 generalize r2B s = W2 at *
 generalize r3B s = W3 at *
 generalize r4B s = W4 at *
 generalize r5B s = W5 at *
 have w5 : IntKind.i64.wrap 5 = 5 := by decide
 have w4 : IntKind.i64.wrap 4 = 4 := by decide
 have w3 : IntKind.i64.wrap 3 = 3 := by decide
 have w2 : IntKind.i64.wrap 2 = 2 := by decide
 have w1 : IntKind.i64.wrap 1 = 1 := by decide
 clear hn hn7 hI kR hW hGq hG hL
 repeat' (first 
  | (with_reducible refine Lit.imm ?_)
  | (simp -dsimp -implicitDefEqProofs [*]))
 refine q46 (fun n : Nat => [(0, s.pv), (1, .ptr q 0), (57, .list true [.func (.func F.q1u) [] [.ptr q 0], .func (.func F.q1v) [] [.ptr q 0], .func (.func F.q1w) [] [.ptr q 0], .func (.func F.q1x) [] [.ptr q 0], .func (.func F.q1y) [] [.ptr q 0]] 5), (58, .int 5), (59, .int n)]) (fun _ => (q, .arr T.q4x s.enc) :: st) (fun n => n ≤ 5 ∧ (0 < n → W1 = true) ∧ (1 < n → W2 = true) ∧ (2 < n → W3 = true) ∧ (3 < n → W4 = true) ∧ (4 < n → W5 = true)) (fun n => 5 - n) 0 ⟨Nat.zero_le _, by omega, by omega, by omega, by omega, by omega⟩ (by simp) (.refl _) ?_
 rintro n ⟨hn, i1, i2, i3, i4, i5⟩
 rcases (show n = 0 ∨ n = 1 ∨ n = 2 ∨ n = 3 ∨ n = 4 ∨ n = 5 by omega) with rfl | rfl | rfl | rfl | rfl | rfl
 ·clear i1 i2 i3 i4 i5
  clear c2 c3 c4 c5 hr
  cases W1 with
  | false =>
   repeat' (first 
    | (with_reducible refine Rets.xcall (c1) ?_)
    | (simp -dsimp -implicitDefEqProofs [*]))
   exact RetView.drop (st' := st) q5l ⟨by simp, rfl⟩
  | true =>
   repeat' (first 
    | (with_reducible refine Rets.xcall (c1) ?_)
    | (simp -dsimp -implicitDefEqProofs [*]))
   exact Next.intro 1 ⟨by omega, fun _ => rfl, by omega, by omega, by omega, by omega⟩ (by omega) (by simp [w1]) q5l
 ·have j1 := i1 (by omega)
  clear i1 i2 i3 i4 i5
  subst j1
  clear c1 c3 c4 c5 hr
  cases W2 with
  | false =>
   repeat' (first 
    | (with_reducible refine Rets.xcall (c2) ?_)
    | (simp -dsimp -implicitDefEqProofs [*]))
   exact RetView.drop (st' := st) q5l ⟨by simp, rfl⟩
  | true =>
   repeat' (first 
    | (with_reducible refine Rets.xcall (c2) ?_)
    | (simp -dsimp -implicitDefEqProofs [*]))
   exact Next.intro 2 ⟨by omega, fun _ => rfl, fun _ => rfl, by omega, by omega, by omega⟩ (by omega) (by simp [w2]) q5l
 ·have j1 := i1 (by omega)
  have j2 := i2 (by omega)
  clear i1 i2 i3 i4 i5
  subst j1
  subst j2
  clear c1 c2 c4 c5 hr
  cases W3 with
  | false =>
   repeat' (first 
    | (with_reducible refine Rets.xcall (c3) ?_)
    | (simp -dsimp -implicitDefEqProofs [*]))
   exact RetView.drop (st' := st) q5l ⟨by simp, rfl⟩
  | true =>
   repeat' (first 
    | (with_reducible refine Rets.xcall (c3) ?_)
    | (simp -dsimp -implicitDefEqProofs [*]))
   exact Next.intro 3 ⟨by omega, fun _ => rfl, fun _ => rfl, fun _ => rfl, by omega, by omega⟩ (by omega) (by simp [w3]) q5l
 ·have j1 := i1 (by omega)
  have j2 := i2 (by omega)
  have j3 := i3 (by omega)
  clear i1 i2 i3 i4 i5
  subst j1
  subst j2
  subst j3
  have c4 := c4 (hr rfl)
  clear c1 c2 c3 c5 hr
  cases W4 with
  | false =>
   repeat' (first 
    | (with_reducible refine Rets.xcall (c4) ?_)
    | (simp -dsimp -implicitDefEqProofs [*]))
   exact RetView.drop (st' := st) q5l ⟨by simp, rfl⟩
  | true =>
   repeat' (first 
    | (with_reducible refine Rets.xcall (c4) ?_)
    | (simp -dsimp -implicitDefEqProofs [*]))
   exact Next.intro 4 ⟨by omega, fun _ => rfl, fun _ => rfl, fun _ => rfl, fun _ => rfl, by omega⟩ (by omega) (by simp [w4]) q5l
 ·have j1 := i1 (by omega)
  have j2 := i2 (by omega)
  have j3 := i3 (by omega)
  have j4 := i4 (by omega)
  clear i1 i2 i3 i4 i5
  subst j1
  subst j2
  subst j3
  subst j4
  clear c1 c2 c3 c4 hr
  cases W5 with
  | false =>
   repeat' (first 
    | (with_reducible refine Rets.xcall (c5) ?_)
    | (simp -dsimp -implicitDefEqProofs [*]))
   exact RetView.drop (st' := st) q5l ⟨by simp, rfl⟩
  | true =>
   repeat' (first 
    | (with_reducible refine Rets.xcall (c5) ?_)
    | (simp -dsimp -implicitDefEqProofs [*]))
   exact Next.intro 5 ⟨by omega, fun _ => rfl, fun _ => rfl, fun _ => rfl, fun _ => rfl, fun _ => rfl⟩ (by omega) (by simp [w5]) q5l
 ·have j1 := i1 (by omega)
  have j2 := i2 (by omega)
  have j3 := i3 (by omega)
  have j4 := i4 (by omega)
  have j5 := i5 (by omega)
  clear i1 i2 i3 i4 i5 c1 c2 c3 c4 c5 hr
  subst j1
  subst j2
  subst j3
  subst j4
  subst j5
  repeat' (simp -dsimp -implicitDefEqProofs [*])
  exact RetView.drop (st' := st) q5l ⟨by simp, rfl⟩
end Go.Proofs.YtnooplpbpfiapaaGreatDoor
