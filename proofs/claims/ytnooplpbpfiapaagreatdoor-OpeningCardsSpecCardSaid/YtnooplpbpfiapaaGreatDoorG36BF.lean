/- The reference: Right. -/
import Derived.Test.YtnooplpbpfiapaaGreatDoorG36BR
import Derived.Test.YtnooplpbpfiapaaGreatDoorG36A
import Derived.Test.YtnooplpbpfiapaaGreatDoorG36X
namespace Go.Proofs.YtnooplpbpfiapaaGreatDoor
open Go.Pv
set_option maxRecDepth 100000
set_option maxHeartbeats 16000000
theorem z7y (s : Ses) (hL : s.Len) (st : q5d) : Rets P F.q29 [s.pv] st (.bool (q67 s)) := by
 have cf := z5s s hL.judges
 have co := z19 s
 have cS := fun x hx => z7v s hL.judges x (hL.cards x hx)
 have cH := fun x => z5r s hL.judges x
 have cN := fun x hx => z7w s hL.sealed hL.cards x (hL.given x hx)
 have l1 := hL.sealed
 have l2 := hL.keys
 have l3 := hL.shown
 rw [show q67 s = (((k03 s && r1B s) && r2B s && r3B s && r4B s) && r5B s) by rw [z5n]; simp [Bool.and_assoc]]
 obtain ⟨W, hW⟩ : ∃ W, W = (((k03 s && r1B s) && r2B s && r3B s && r4B s) && r5B s) := ⟨_, rfl⟩
 rw [← hW]
 generalize (k03 s && r1B s) = F at *
 cases F with
 | false =>
  have e : W = false := by rw [hW]; rfl
  subst e
  clear hW hL cS cH cN co
  refine H.q29.pure q5n rfl rfl ?_
  repeat' (first 
   | (with_reducible refine Fresh.intro fun b hb => ?_) <;> (try simp -dsimp -implicitDefEqProofs [*] at hb)
   | (with_reducible refine Rets.xcall (cf _) ?_)
   | (simp -dsimp -implicitDefEqProofs [*]))
 | true =>
 rw [Bool.true_and] at hW
 have h2 : Hid (r2B s = false → W = false) := ⟨fun e => by rw [hW, e]; rfl⟩
 have h3 : Hid (r3B s = false → W = false) := ⟨fun e => by rw [hW, e, Bool.and_false]; rfl⟩
 have h4 : Hid (r4B s = false → W = false) := ⟨fun e => by rw [hW, e, Bool.and_false]; rfl⟩
 have h5 : Hid (r2B s = true → r3B s = true → r4B s = true → W = r5B s) := ⟨fun a b c => by rw [hW, a, b, c]; rfl⟩
 replace cS := Hid.mk cS
 replace cH := Hid.mk cH
 replace cN := Hid.mk cN
 clear hW hL
 refine H.q29.view q5n rfl rfl ?_
 repeat' (first 
  | (with_reducible refine Fresh.intro fun b hb => ?_) <;> (try simp -dsimp -implicitDefEqProofs [*] at hb)
  | (with_reducible refine Rets.xcall (cf _) ?_)
  | (simp -dsimp -implicitDefEqProofs [*]))
 revert b; intro q hq
 clear cf
 refine q5g (fun n : Nat => [(1, .ptr q 0), (3, .int n)]) (fun _ => (q, .arr T.apiSession s.enc) :: st) (fun n => n ≤ s.sealed.length ∧ Hid (PI cJ (q8l s) s.sealed n)) (fun n => s.sealed.length - n) 0 ⟨Nat.zero_le _, ⟨.zero⟩⟩ (by simp) q5q ?_
 rintro n ⟨hn, hI⟩
 by_cases hnl : n < s.sealed.length
 ·have hw := q5h (n := n) (by omega)
  have s0 := Card.row_sub s.sealed n hnl
  have hk : n * 36 < s.sealed.length * 36 := by omega
  have cx := cS.out s.sealed[n] (List.getElem_mem hnl)
  have hf : Hid (q8l s s.sealed[n] = false → W = false) := ⟨fun e => h2.out (z3y hnl e)⟩
  cases hv : q8l s s.sealed[n] with
  | false =>
   rw [hv] at cx
   have e := hf.out hv
   subst e
   obtain ⟨x, hx⟩ : ∃ x, x = s.sealed[n] := ⟨_, rfl⟩
   rw [← hx] at s0 cx
   clear hf hv hI h2 h3 h4 h5 hx
   repeat' (first 
    | (with_reducible refine Rets.xcall (cx _) ?_)
    | (with_reducible refine DrawLate.intro [] ?_)
    | (simp -dsimp -implicitDefEqProofs [*]))
   exact RetView.drop (st' := st) q5q ⟨rfl, rfl⟩
  | true =>
   rw [hv] at cx
   cases n with
   | zero =>
    have hI2 : Hid (PI cJ (q8l s) s.sealed 1) := ⟨.one hnl hv⟩
    obtain ⟨x, hx⟩ : ∃ x, x = s.sealed[0] := ⟨_, rfl⟩
    rw [← hx] at s0 cx
    clear hf hv hI h2 h3 h4 h5 hx
    repeat' (first 
     | (with_reducible refine Rets.xcall (cx _) ?_)
     | (with_reducible refine DrawLate.intro [] ?_)
     | (simp -dsimp -implicitDefEqProofs [*]))
    exact Next.intro 1 ⟨by omega, hI2⟩ (by omega) (by simp) q5q
   | succ k =>
    have hkl : k < s.sealed.length := by omega
    have wk : IntKind.i64.wrap (((k + 1 : Nat) : Int) - 1) = (k : Int) := by rw [q5m (by omega) (by omega)]; omega
    have k2 : Hid (¬ cJ s.sealed[k] s.sealed[k + 1] < 0 → W = false) := ⟨fun h => h2.out (k94 hnl h)⟩
    have hI2 : Hid (cJ s.sealed[k] s.sealed[k + 1] < 0 → PI cJ (q8l s) s.sealed (k + 1 + 1)) := ⟨fun h => hI.out.step hnl hv h⟩
    have t0 := Card.row_sub s.sealed k hkl
    have hk2 : k * 36 < s.sealed.length * 36 := by omega
    have g0 := Card.row_get2 s.sealed k hkl
    have g1 := Card.row_get2 s.sealed (k + 1) hnl
    obtain ⟨x, hx⟩ : ∃ x, x = s.sealed[k] := ⟨_, rfl⟩
    obtain ⟨y, hy⟩ : ∃ y, y = s.sealed[k + 1] := ⟨_, rfl⟩
    rw [← hx, ← hy] at hI2 k2
    rw [← hx] at t0
    rw [← hy] at s0 cx
    rw [← hx] at g0
    rw [← hy] at g1
    have E0 : ∀ h, (Card.row s.sealed)[k * 36 + 2]'h = .int x.j := fun h => by have := List.getElem?_eq_getElem h; rw [g0] at this; exact (Option.some.inj this).symm
    have b0 : k * 36 + 2 < s.sealed.length * 36 := by omega
    clear hI hf hv h2 h3 h4 h5 hx hy
    obtain ⟨n, hnk⟩ : ∃ n, n = k + 1 := ⟨_, rfl⟩
    have hn0 : (0 : Int) < n := by omega
    have hI3 : Hid (cJ x y < 0 → PI cJ (q8l s) s.sealed (n + 1)) := ⟨by rw [hnk]; exact hI2.out⟩
    clear hI2
    rw [← hnk] at s0 hw wk hnl hn hk g1 ⊢
    have E1 : ∀ h, (Card.row s.sealed)[n * 36 + 2]'h = .int y.j := fun h => by have := List.getElem?_eq_getElem h; rw [g1] at this; exact (Option.some.inj this).symm
    have b1 : n * 36 + 2 < s.sealed.length * 36 := by omega
    clear hnk
    by_cases hxy : cJ x y < 0
    ·have hI4 := Hid.mk (hI3.out hxy)
     clear hI3 k2
     have hlt : ¬ y.j ≤ x.j := by have := q74.1 hxy; omega
     clear hxy
     repeat' (first 
      | (with_reducible refine Rets.xcall (cx _) ?_)
      | (with_reducible refine DrawLate.intro [] ?_)
      | (with_reducible refine And.intro (fun h => ?_) (fun h => ?_)) <;> (try (exfalso; omega))
      | (simp -dsimp -implicitDefEqProofs [*]))
     exact Next.intro (n + 1) ⟨by omega, hI4⟩ (by omega) (by simp) q5q
    ·have e := k2.out hxy
     subst e
     clear hI3 k2
     have hlt : y.j ≤ x.j := by have : ¬ x.j < y.j := fun h => hxy (q74.2 h); omega
     clear hxy
     repeat' (first 
      | (with_reducible refine Rets.xcall (cx _) ?_)
      | (with_reducible refine DrawLate.intro [] ?_)
      | (with_reducible refine And.intro (fun h => ?_) (fun h => ?_)) <;> (try (exfalso; omega))
      | (simp -dsimp -implicitDefEqProofs [*]))
     exact RetView.drop (st' := st) q5q ⟨rfl, rfl⟩
 obtain rfl : n = s.sealed.length := by omega
 have k2 : Hid (r2B s = true) := ⟨hI.out.all⟩
 clear hI hn hnl
 repeat' (simp -dsimp -implicitDefEqProofs [*])
 refine q5g (fun n : Nat => [(1, .ptr q 0), (4, .int n)]) (fun _ => (q, .arr T.apiSession s.enc) :: st) (fun n => n ≤ s.keys.length ∧ Hid (PI q98 (q7d s) s.keys n)) (fun n => s.keys.length - n) 0 ⟨Nat.zero_le _, ⟨.zero⟩⟩ (by simp) q5q ?_
 rintro n ⟨hn, hI⟩
 by_cases hnl : n < s.keys.length
 ·have hw := q5h (n := n) (by omega)
  have s0 := Sh.row_sub s.keys n hnl
  have hk : n * 4 < s.keys.length * 4 := by omega
  have cx := cH.out s.keys[n]
  have hf : Hid (q7d s s.keys[n] = false → W = false) := ⟨fun e => h3.out (z3y hnl e)⟩
  cases hv : q7d s s.keys[n] with
  | false =>
   rw [hv] at cx
   have e := hf.out hv
   subst e
   obtain ⟨x, hx⟩ : ∃ x, x = s.keys[n] := ⟨_, rfl⟩
   rw [← hx] at s0 cx
   clear hf hv hI h2 h3 h4 h5 hx
   repeat' (first 
    | (with_reducible refine Rets.xcall (cx _) ?_)
    | (with_reducible refine DrawLate.intro [] ?_)
    | (simp -dsimp -implicitDefEqProofs [*]))
   exact RetView.drop (st' := st) q5q ⟨rfl, rfl⟩
  | true =>
   rw [hv] at cx
   cases n with
   | zero =>
    have hI2 : Hid (PI q98 (q7d s) s.keys 1) := ⟨.one hnl hv⟩
    obtain ⟨x, hx⟩ : ∃ x, x = s.keys[0] := ⟨_, rfl⟩
    rw [← hx] at s0 cx
    clear hf hv hI h2 h3 h4 h5 hx
    repeat' (first 
     | (with_reducible refine Rets.xcall (cx _) ?_)
     | (with_reducible refine DrawLate.intro [] ?_)
     | (simp -dsimp -implicitDefEqProofs [*]))
    exact Next.intro 1 ⟨by omega, hI2⟩ (by omega) (by simp) q5q
   | succ k =>
    have hkl : k < s.keys.length := by omega
    have wk : IntKind.i64.wrap (((k + 1 : Nat) : Int) - 1) = (k : Int) := by rw [q5m (by omega) (by omega)]; omega
    have k2 : Hid (¬ q98 s.keys[k] s.keys[k + 1] < 0 → W = false) := ⟨fun h => h3.out (k94 hnl h)⟩
    have hI2 : Hid (q98 s.keys[k] s.keys[k + 1] < 0 → PI q98 (q7d s) s.keys (k + 1 + 1)) := ⟨fun h => hI.out.step hnl hv h⟩
    have t0 := Sh.row_sub s.keys k hkl
    have hk2 : k * 4 < s.keys.length * 4 := by omega
    obtain ⟨x, hx⟩ : ∃ x, x = s.keys[k] := ⟨_, rfl⟩
    obtain ⟨y, hy⟩ : ∃ y, y = s.keys[k + 1] := ⟨_, rfl⟩
    rw [← hx, ← hy] at hI2 k2
    rw [← hx] at t0
    rw [← hy] at s0 cx
    have cb := z5q x y
    clear hI hf hv h2 h3 h4 h5 hx hy
    obtain ⟨n, hnk⟩ : ∃ n, n = k + 1 := ⟨_, rfl⟩
    have hn0 : (0 : Int) < n := by omega
    have hI3 : Hid (q98 x y < 0 → PI q98 (q7d s) s.keys (n + 1)) := ⟨by rw [hnk]; exact hI2.out⟩
    clear hI2
    rw [← hnk] at s0 hw wk hnl hn hk  ⊢
    clear hnk
    by_cases hxy : q98 x y < 0
    ·have hI4 := Hid.mk (hI3.out hxy)
     clear hI3 k2
     rw [decide_eq_true hxy] at cb
     clear hxy
     repeat' (first 
      | (with_reducible refine Rets.xcall (cx _) ?_)
      | (with_reducible refine Rets.xcall (cb _) ?_)
      | (with_reducible refine DrawLate.intro [] ?_)
      | (with_reducible refine And.intro (fun h => ?_) (fun h => ?_)) <;> (try (exfalso; omega))
      | (simp -dsimp -implicitDefEqProofs [*]))
     exact Next.intro (n + 1) ⟨by omega, hI4⟩ (by omega) (by simp) q5q
    ·have e := k2.out hxy
     subst e
     clear hI3 k2
     rw [decide_eq_false hxy] at cb
     clear hxy
     repeat' (first 
      | (with_reducible refine Rets.xcall (cx _) ?_)
      | (with_reducible refine Rets.xcall (cb _) ?_)
      | (with_reducible refine DrawLate.intro [] ?_)
      | (with_reducible refine And.intro (fun h => ?_) (fun h => ?_)) <;> (try (exfalso; omega))
      | (simp -dsimp -implicitDefEqProofs [*]))
     exact RetView.drop (st' := st) q5q ⟨rfl, rfl⟩
 obtain rfl : n = s.keys.length := by omega
 have k3 : Hid (r3B s = true) := ⟨hI.out.all⟩
 clear hI hn hnl
 repeat' (simp -dsimp -implicitDefEqProofs [*])
 refine q5g (fun n : Nat => [(1, .ptr q 0), (5, .int n)]) (fun _ => (q, .arr T.apiSession s.enc) :: st) (fun n => n ≤ s.shown.length ∧ Hid (PI nJ (q75 s) s.shown n)) (fun n => s.shown.length - n) 0 ⟨Nat.zero_le _, ⟨.zero⟩⟩ (by simp) q5q ?_
 rintro n ⟨hn, hI⟩
 by_cases hnl : n < s.shown.length
 ·have hw := q5h (n := n) (by omega)
  have s0 := Shn.row_sub s.shown n hnl
  have hk : n * 34 < s.shown.length * 34 := by omega
  have cx := cN.out s.shown[n] (List.getElem_mem hnl)
  have hf : Hid (q75 s s.shown[n] = false → W = false) := ⟨fun e => h4.out (z3y hnl e)⟩
  cases hv : q75 s s.shown[n] with
  | false =>
   rw [hv] at cx
   have e := hf.out hv
   subst e
   obtain ⟨x, hx⟩ : ∃ x, x = s.shown[n] := ⟨_, rfl⟩
   rw [← hx] at s0 cx
   clear hf hv hI h2 h3 h4 h5 hx
   repeat' (first 
    | (with_reducible refine Rets.xcall (cx _) ?_)
    | (with_reducible refine DrawLate.intro [] ?_)
    | (simp -dsimp -implicitDefEqProofs [*]))
   exact RetView.drop (st' := st) q5q ⟨rfl, rfl⟩
  | true =>
   rw [hv] at cx
   cases n with
   | zero =>
    have hI2 : Hid (PI nJ (q75 s) s.shown 1) := ⟨.one hnl hv⟩
    obtain ⟨x, hx⟩ : ∃ x, x = s.shown[0] := ⟨_, rfl⟩
    rw [← hx] at s0 cx
    clear hf hv hI h2 h3 h4 h5 hx
    repeat' (first 
     | (with_reducible refine Rets.xcall (cx _) ?_)
     | (with_reducible refine DrawLate.intro [] ?_)
     | (simp -dsimp -implicitDefEqProofs [*]))
    exact Next.intro 1 ⟨by omega, hI2⟩ (by omega) (by simp) q5q
   | succ k =>
    have hkl : k < s.shown.length := by omega
    have wk : IntKind.i64.wrap (((k + 1 : Nat) : Int) - 1) = (k : Int) := by rw [q5m (by omega) (by omega)]; omega
    have k2 : Hid (¬ nJ s.shown[k] s.shown[k + 1] < 0 → W = false) := ⟨fun h => h4.out (k94 hnl h)⟩
    have hI2 : Hid (nJ s.shown[k] s.shown[k + 1] < 0 → PI nJ (q75 s) s.shown (k + 1 + 1)) := ⟨fun h => hI.out.step hnl hv h⟩
    have t0 := Shn.row_sub s.shown k hkl
    have hk2 : k * 34 < s.shown.length * 34 := by omega
    have g0 := Shn.row_get0 s.shown k hkl
    have g1 := Shn.row_get0 s.shown (k + 1) hnl
    obtain ⟨x, hx⟩ : ∃ x, x = s.shown[k] := ⟨_, rfl⟩
    obtain ⟨y, hy⟩ : ∃ y, y = s.shown[k + 1] := ⟨_, rfl⟩
    rw [← hx, ← hy] at hI2 k2
    rw [← hx] at t0
    rw [← hy] at s0 cx
    rw [← hx] at g0
    rw [← hy] at g1
    have E0 : ∀ h, (Shn.row s.shown)[k * 34]'h = .int x.j := fun h => by have := List.getElem?_eq_getElem h; rw [g0] at this; exact (Option.some.inj this).symm
    have b0 : k * 34 < s.shown.length * 34 := by omega
    clear hI hf hv h2 h3 h4 h5 hx hy
    obtain ⟨n, hnk⟩ : ∃ n, n = k + 1 := ⟨_, rfl⟩
    have hn0 : (0 : Int) < n := by omega
    have hI3 : Hid (nJ x y < 0 → PI nJ (q75 s) s.shown (n + 1)) := ⟨by rw [hnk]; exact hI2.out⟩
    clear hI2
    rw [← hnk] at s0 hw wk hnl hn hk g1 ⊢
    have E1 : ∀ h, (Shn.row s.shown)[n * 34]'h = .int y.j := fun h => by have := List.getElem?_eq_getElem h; rw [g1] at this; exact (Option.some.inj this).symm
    have b1 : n * 34 < s.shown.length * 34 := by omega
    clear hnk
    by_cases hxy : nJ x y < 0
    ·have hI4 := Hid.mk (hI3.out hxy)
     clear hI3 k2
     have hlt : ¬ y.j ≤ x.j := by have := q74.1 hxy; omega
     clear hxy
     repeat' (first 
      | (with_reducible refine Rets.xcall (cx _) ?_)
      | (with_reducible refine DrawLate.intro [] ?_)
      | (with_reducible refine And.intro (fun h => ?_) (fun h => ?_)) <;> (try (exfalso; omega))
      | (simp -dsimp -implicitDefEqProofs [*]))
     exact Next.intro (n + 1) ⟨by omega, hI4⟩ (by omega) (by simp) q5q
    ·have e := k2.out hxy
     subst e
     clear hI3 k2
     have hlt : y.j ≤ x.j := by have : ¬ x.j < y.j := fun h => hxy (q74.2 h); omega
     clear hxy
     repeat' (first 
      | (with_reducible refine Rets.xcall (cx _) ?_)
      | (with_reducible refine DrawLate.intro [] ?_)
      | (with_reducible refine And.intro (fun h => ?_) (fun h => ?_)) <;> (try (exfalso; omega))
      | (simp -dsimp -implicitDefEqProofs [*]))
     exact RetView.drop (st' := st) q5q ⟨rfl, rfl⟩
 obtain rfl : n = s.shown.length := by omega
 have k4 : r4B s = true := hI.out.all
 have e := h5.out k2.out k3.out k4
 have e5 : r5B s = (q8j s || (decide ((s.keys.length : Int) = 0) && decide ((s.shown.length : Int) = 0))) := by
  unfold r5B
  congr 1
  rw [Bool.eq_iff_iff]
  simp only [Bool.and_eq_true, decide_eq_true_eq]
  omega
 rw [e5] at e
 subst e
 clear hI hn hnl k2 k3 k4 h2 h3 h4 h5 e5 cS cH cN
 generalize q8j s = O at *
 repeat' (first 
  | (with_reducible refine Rets.xcall (co _) ?_)
  | (with_reducible refine And.intro (fun h => ?_) (fun h => ?_)) <;> (try (exfalso; omega))
  | (simp -dsimp -implicitDefEqProofs [*]))
 all_goals exact RetView.drop (st' := st) q5q ⟨rfl, rfl⟩
open Go.Pv
set_option maxRecDepth 100000
set_option maxHeartbeats 8000000
open Go.Pv
set_option maxRecDepth 100000
set_option maxHeartbeats 4000000
theorem z3z (g : FuncId) (c : Shn → Int) (y : Int) (t : Bool) (l : List Shn) (hl : l.length ≤ 1024) (hm : Falls c l) (st : q5d) (hg : ∀ x ∈ l, ∀ st', StLe st st' → Rets P g [x.pv, .int y] st' (.int (c x))) : Rets P F.q0h [Shn.lst t l, .int y, .func (.func g) [] []] st (.tuple [.int (k0m c l), .bool (k8n c l)]) := by
 refine H.q0h.view q5n rfl rfl ?_
 repeat' (simp -dsimp -implicitDefEqProofs [*])
 refine q5g (fun x : Nat × Nat => [(0, Shn.lst t l), (1, .int y), (2, .func (.func g) [] []), (8, .int l.length), (9, .int (x.1 : Nat)), (10, .int (x.2 : Nat))]) (fun _ => st)
  (fun x => x.1 ≤ x.2 ∧ x.2 ≤ l.length ∧ Hid ((∀ k, k < x.1 → ∀ h : k < l.length, c l[k] < 0) ∧ (∀ k, x.2 ≤ k → ∀ h : k < l.length, 0 ≤ c l[k]))) (fun x => x.2 - x.1) (0, l.length) ⟨Nat.zero_le _, Nat.le_refl _, ⟨fun k h => absurd h (by simp), fun k h1 h2 => absurd h1 (by simp only; omega)⟩⟩ (by simp) (.refl _) ?_
 rintro ⟨i, j⟩ ⟨h1, h2, h3⟩
 replace h1 : i ≤ j := h1
 replace h2 : j ≤ l.length := h2
 replace h3 : Hid ((∀ k, k < i → ∀ h : k < l.length, c l[k] < 0) ∧ (∀ k, j ≤ k → ∀ h : k < l.length, 0 ≤ c l[k])) := h3
 by_cases hij : i < j
 ·have hm1 : IntKind.i64.wrap ((i : Int) + j) = (i : Int) + j := q5m (by omega) (by omega)
  have hm2 : IntKind.u64.wrap ((i : Int) + j) = (i : Int) + j := q70 (by omega) (by omega)
  have hm3 := z40 (i := i) (j := j) (by omega)
  obtain ⟨m, hmd⟩ : ∃ m, m = (i + j) / 2 := ⟨_, rfl⟩
  rw [← hmd] at hm3
  have hm4 := q5h (n := m) (by omega)
  have him : i ≤ m ∧ m < j := by omega
  have hml : m < l.length := by omega
  have s0 := Shn.row_sub l m hml
  have hk : m * 34 < l.length * 34 := by omega
  have hc := hg l[m] (List.getElem_mem hml) st (.refl _)
  have f1 : Hid (c l[m] < 0 → (∀ k, k < m + 1 → ∀ h : k < l.length, c l[k] < 0) ∧ (∀ k, j ≤ k → ∀ h : k < l.length, 0 ≤ c l[k])) := ⟨fun hn => ⟨fun k hk h => if e : k = m then by subst e; exact hn else hm.out k m (by omega) hml hn (h' := h), h3.out.2⟩⟩
  have f2 : Hid (0 ≤ c l[m] → (∀ k, k < i → ∀ h : k < l.length, c l[k] < 0) ∧ (∀ k, m ≤ k → ∀ h : k < l.length, 0 ≤ c l[k])) := ⟨fun hp => ⟨h3.out.1, fun k hk h => Int.not_lt.1 fun hn => by
   by_cases e : k = m
   ·subst e; omega
   ·have := hm.out m k (by omega) h hn (h' := hml); omega⟩⟩
  obtain ⟨x, hx⟩ : ∃ x, x = l[m] := ⟨_, rfl⟩
  rw [← hx] at s0 hc f1 f2
  obtain ⟨v, hv⟩ : ∃ v, v = c x := ⟨_, rfl⟩
  rw [← hv] at hc f1 f2
  clear hmd hx hv h3 hg hm
  by_cases hv0 : v < 0
  ·have h5 := Hid.mk (f1.out hv0)
   clear f1 f2
   repeat' (first 
    | (with_reducible refine Rets.xcall (hc) ?_)
    | (simp -dsimp -implicitDefEqProofs [*]))
   exact Next.intro (m + 1, j) ⟨by simp only; omega, h2, h5⟩ (by simp only; omega) (by simp) q5q
  ·have hv1 : 0 ≤ v := by omega
   have h5 := Hid.mk (f2.out hv1)
   clear f1 f2
   repeat' (first 
    | (with_reducible refine Rets.xcall (hc) ?_)
    | (simp -dsimp -implicitDefEqProofs [*]))
   exact Next.intro (i, m) ⟨by simp only; omega, by simp only; omega, h5⟩ (by simp only; omega) (by simp) q5q
 ·obtain rfl : j = i := by omega
  obtain ⟨e1, e2⟩ := k15 h2 h3.out.1 h3.out.2
  rw [← e1, e2]
  have kl : (j : Int) < l.length ↔ j < l.length := by omega
  clear h3
  by_cases hjl : j < l.length
  ·have s0 := Shn.row_sub l j hjl
   have hk : j * 34 < l.length * 34 := by omega
   have hc := hg l[j] (List.getElem_mem hjl) st (.refl _)
   have hjl2 : (j : Int) < l.length := by omega
   rw [dif_pos hjl]
   obtain ⟨x, hx⟩ : ∃ x, x = l[j] := ⟨_, rfl⟩
   rw [← hx] at s0 hc ⊢
   obtain ⟨v, hv⟩ : ∃ v, v = c x := ⟨_, rfl⟩
   rw [← hv] at hc ⊢
   clear hx hv hg hm e1 e2 kl
   repeat' (first 
    | (with_reducible refine Rets.xcall (hc) ?_)
    | (simp -dsimp -implicitDefEqProofs [*]))
   exact .same ⟨rfl, rfl⟩
  ·have hjl2 : ¬ (j : Int) < l.length := by omega
   rw [dif_neg hjl]
   clear hg hm e1 e2 kl
   repeat' (simp -dsimp -implicitDefEqProofs [*])
   exact .same ⟨rfl, rfl⟩
open Go.Pv Go.Pv.Ip
set_option maxRecDepth 100000
set_option maxHeartbeats 8000000
theorem z7z (x : Shn) (j : Int) (st : q5d) : Rets P F.q11 [x.pv, .int j] st (.int (k1h x.j j)) := by
 refine H.q11.pure q5n rfl rfl ?_
 repeat' (first 
  | (with_reducible refine Fresh.intro fun b hb => ?_) <;> (try simp -dsimp -implicitDefEqProofs [*] at hb)
  | (with_reducible refine Rets.xcall (k39 _ _ _) ?_)
  | (simp -dsimp -implicitDefEqProofs [*]))
def j8l (x : Card) : Option Shn → PV
 | none => .tuple [.agg [.int 0, .nil], .bool false]
 | some y => .tuple [.agg [.int 1, k22 (q8s x y)], .bool true]
theorem z70 (s : Ses) (hL : s.Len) (hr : q53 nJ s.shown = true) (x : Card) (hx : x.c.length ≤ 100000) (st : q5d) (hG : GL st) : Rets P F.q1c [s.pv, x.pv] st (j8l x (q99 s x.j)) := by
 have hN := q6k hG.h0 hG.h1
 have h0 := hG.h0
 have h1 := hG.h1
 have hf := k49 hr x.j
 have cs := fun st => z3z F.q11 (fun y => k1h y.j x.j) x.j false s.shown hL.shown hf.weak st (fun y _ st _ => z7z y x.j st)
 have hfd := found hf
 rw [← j0r] at hfd
 have hfe : ∃ w i, k8n (fun y : Shn => k1h y.j x.j) s.shown = w ∧ k0m (fun y : Shn => k1h y.j x.j) s.shown = i ∧ (w = true → ∃ h : i < s.shown.length, q99 s x.j = some s.shown[i]) ∧ (w = false → q99 s x.j = none) := ⟨_, _, rfl, rfl, hfd⟩
 obtain ⟨w, i, e1, e2, hfd⟩ := hfe
 rw [e1, e2] at cs
 clear e1 e2 hf
 obtain ⟨W, hW⟩ : ∃ W, W = j8l x (q99 s x.j) := ⟨_, rfl⟩
 rw [← hW]
 refine H.q1c.view q5n rfl rfl ?_
 cases w with
 | false =>
  rw [hfd.2 rfl] at hW
  subst hW
  clear hfd hL hG
  repeat' (first 
   | (with_reducible refine Fresh.intro fun b hb => ?_) <;> (try simp -dsimp -implicitDefEqProofs [*] at hb)
   | (with_reducible refine Rets.xcall (cs _) ?_)
   | (simp -dsimp -implicitDefEqProofs [*]))
  exact RetView.drop (st' := st) q5q ⟨rfl, rfl⟩
 | true =>
  obtain ⟨hil, e⟩ := hfd.1 rfl
  rw [e] at hW
  clear hfd e
  have s0 := Shn.row_sub s.shown i hil
  have hk : i * 34 < s.shown.length * 34 := by omega
  have hkl := hL.given _ (List.getElem_mem hil)
  have g1 : (Shn.row s.shown)[i * 34 + 1]? = some (q5k false s.shown[i].k) := q7n Shn.enc 34 Shn.len s.shown i 1 hil (by omega)
  have g2 : sub (Shn.row s.shown) (i * 34 + 2) 32 = some (q5e s.shown[i].s.1) := by
   have h3 : (Shn.row s.shown).length = s.shown.length * 34 := Shn.row_len _
   have h4 := s0
   unfold sub at h4 ⊢
   rw [if_pos (by omega)] at h4 ⊢
   have h5 := Option.some.inj h4
   have h6 : ((Shn.row s.shown).drop (i * 34 + 2)).take 32 = (s.shown[i].enc.drop 2).take 32 := by
    rw [← h5, List.drop_take, List.drop_drop, List.take_take, Nat.min_eq_left (by omega)]
   rw [h6]
   have h7 := Shn.sub_s s.shown[i]
   unfold sub at h7
   rw [if_pos (by simp)] at h7
   exact h7
  obtain ⟨y, hy⟩ : ∃ y, y = s.shown[i] := ⟨_, rfl⟩
  rw [← hy] at s0 hkl g1 g2 hW
  have G1 : ∀ h, (Shn.row s.shown)[i * 34 + 1]'h = q5k false y.k := fun h => by have := List.getElem?_eq_getElem h; rw [g1] at this; exact (Option.some.inj this).symm
  have hk2 : i * 34 + 1 < s.shown.length * 34 := by omega
  have co : ∀ st, q5w st 0 = some (.arr T.t8uint32 Sha.start.row) → q5w st 1 = some q9o → Rets P F.q4s [x.pv, q5k false y.k, .agg (q5e y.s.1)] st (.tuple [k22 (q8s x y), .bool (q8s x y).isSome, .int (if q6f x.r x.e x.j x.c y.k then 0 else 340)]) := fun st => z5h false false x.r x.e x.j x.c y.k hx hkl x.d.1 y.s.1 x.d.2 y.s.2 st
  replace hW : W = .tuple [.agg [.int 1, k22 (q8s x y)], .bool true] := hW
  generalize (if q6f x.r x.e x.j x.c y.k then (0 : Int) else 340) = B at *
  generalize q8s x y = O at *
  clear hy hkl hL hG hx
  cases O with
  | none =>
   subst hW
   simp only [k22, Option.isSome_none] at co ⊢
   repeat' (first 
    | (with_reducible refine Fresh.intro fun b hb => ?_) <;> (try simp -dsimp -implicitDefEqProofs [*] at hb)
    | (with_reducible refine Rets.xcall (cs _) ?_)
    | (with_reducible refine Rets.xcall (co _ (by simp [*]) (by simp [*])) ?_)
    | (with_reducible refine DrawLate.intro [] ?_)
    | (simp -dsimp -implicitDefEqProofs [*]))
   exact RetView.drop (st' := st) q5q ⟨rfl, rfl⟩
  | some m =>
   subst hW
   simp only [k22, Option.isSome_some] at co ⊢
   repeat' (first 
    | (with_reducible refine Fresh.intro fun b hb => ?_) <;> (try simp -dsimp -implicitDefEqProofs [*] at hb)
    | (with_reducible refine Rets.xcall (cs _) ?_)
    | (with_reducible refine Rets.xcall (co _ (by simp [*]) (by simp [*])) ?_)
    | (with_reducible refine DrawLate.intro [] ?_)
    | (simp -dsimp -implicitDefEqProofs [*]))
   exact RetView.drop (st' := st) q5q ⟨rfl, rfl⟩
end Go.Proofs.YtnooplpbpfiapaaGreatDoor
