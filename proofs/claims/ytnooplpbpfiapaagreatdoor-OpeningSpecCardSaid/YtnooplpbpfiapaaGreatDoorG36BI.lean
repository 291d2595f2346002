/- The reference: what was shown is put. -/
import Derived.Test.YtnooplpbpfiapaaGreatDoorG36CF
import Derived.Test.YtnooplpbpfiapaaGreatDoorG36X
namespace Go.Proofs.YtnooplpbpfiapaaGreatDoor
open Go.Pv
set_option maxRecDepth 100000
set_option maxHeartbeats 16000000
def k6k (f : List Shn → Ses) : List Shn ⊕ Int → Ses
 | .inl l => f l
 | .inr _ => zeroSes
theorem Shn.row_take (l : List Shn) (i : Nat) : (Shn.row l).take (i * 34) = Shn.row (l.take i) := k3f Shn.enc 34 Shn.len l i
theorem Shn.row_drop (l : List Shn) (i : Nat) : (Shn.row l).drop (i * 34) = Shn.row (l.drop i) := k0u Shn.enc 34 Shn.len l i
theorem j09 (s : Ses) (hL : s.Len) (x : Shn) (hx : x.k.length ≤ 100000) (st : q5d) : Rets P F.q36 [s.pv, x.pv] st (.tuple [(k6k (fun l => { s with shown := l }) (k2w s x)).pv, .int (k7n (k2w s x))]) := by
 have co := k13 s
 have cs := z0g s hL.sealed hL.cards x hx
 have hl := hL.shown
 have hc := Hid.mk hL.given
 obtain ⟨W, hW⟩ : ∃ W, W = k2w s x := ⟨_, rfl⟩
 rw [← hW]
 unfold k2w at hW
 clear hL
 generalize q78 s = O at *
 generalize q74 s x = S at *
 refine H.q36.view q5m rfl rfl ?_
 cases O with
 | false =>
  replace hW : W = .inr 360 := hW
  subst hW
  simp only [k6k, k7n]
  clear cs hc
  repeat' (first 
   | (with_reducible refine Fresh.intro fun b hb => ?_) <;> (try simp -dsimp -implicitDefEqProofs [*] at hb)
   | (with_reducible refine Rets.xcall (co _) ?_)
   | (simp -dsimp -implicitDefEqProofs [*]))
  exact RetView.le (PLe.tuple2 q57 (.refl _)) (RetView.drop (st' := st) q5q ⟨rfl, rfl⟩)
 | true =>
 cases S with
 | false =>
  replace hW : W = .inr 1 := hW
  subst hW
  simp only [k6k, k7n]
  clear hc
  repeat' (first 
   | (with_reducible refine Fresh.intro fun b hb => ?_) <;> (try simp -dsimp -implicitDefEqProofs [*] at hb)
   | (with_reducible refine Rets.xcall (co _) ?_)
   | (with_reducible refine Rets.xcall (cs _) ?_)
   | (simp -dsimp -implicitDefEqProofs [*]))
  exact RetView.le (PLe.tuple2 q57 (.refl _)) (RetView.drop (st' := st) q5q ⟨rfl, rfl⟩)
 | true =>
 replace hW : W = match y2u s x with
  | some l => .inl l
  | none => .inr 141 := hW
 unfold y2u at hW
 replace hW := Hid.mk hW
 repeat' (first 
  | (with_reducible refine Fresh.intro fun b hb => ?_) <;> (try simp -dsimp -implicitDefEqProofs [*] at hb)
  | (with_reducible refine Rets.xcall (co _) ?_)
  | (with_reducible refine Rets.xcall (cs _) ?_)
  | (simp -dsimp -implicitDefEqProofs [*]))
 revert b
 revert b
 revert b
 intro b1 hb1 b2 hb2 b3 hb3
 clear co cs
 have hse : ∀ v, sub (s.enc.set 9 v) 0 10 = some (s.enc.set 9 v) := fun v => sub_all (by simp)
 have hsc : ∀ v, q5i [.int 0, .int 0, .int 0, .nil, .int 0, .int 0, .int 0, .nil, .nil, .nil] 0 (s.enc.set 9 v) = s.enc.set 9 v := fun v => q56 _ _ (by simp)
 refine q5g (fun n : Nat => [(2, .ptr b1 0), (3, .ptr b2 0), (4, .ptr b3 0), (5, .int 0), (6, .int n)]) (fun _ => (b3, .arr T.apiSession [.int 0, .int 0, .int 0, .nil, .int 0, .int 0, .int 0, .nil, .nil, .nil]) :: (b2, .arr T.apiShown x.enc) :: (b1, .arr T.apiSession s.enc) :: st) (fun n => n ≤ s.shown.length ∧ Hid (∀ k (_ : k < n) (h : k < s.shown.length), q9t s.shown[k].j x.j < 0)) (fun n => s.shown.length - n) 0 ⟨Nat.zero_le _, ⟨fun k h => absurd h (by omega)⟩⟩ (by simp) (.refl _) ?_
 rintro n ⟨hn, hI⟩
 have hold : s.enc[9]'(by simp) = Shn.lst false s.shown := rfl
 have hlt : (Shn.row s.shown).take (n * 34) = Shn.row (s.shown.take n) := Shn.row_take s.shown n
 have hld : (Shn.row s.shown).drop (n * 34) = Shn.row (s.shown.drop n) := Shn.row_drop s.shown n
 have hmin : min (n * 34) (s.shown.length * 34) = n * 34 := by omega
 have hsub : s.shown.length * 34 - n * 34 = (s.shown.length - n) * 34 := by omega
 by_cases hnl : n < s.shown.length
 ·have hw := q5h (n := n) (by omega)
  have g1 := Shn.row_get0 s.shown n hnl
  have E1 : ∀ h, (Shn.row s.shown)[n * 34]'h = .int s.shown[n].j := fun h => by have := List.getElem?_eq_getElem h; rw [g1] at this; exact (Option.some.inj this).symm
  have hk2 : n * 34 < s.shown.length * 34 := by omega
  have hk0 : n * 34 < s.shown.length * 34 := by omega
  have s0 := Shn.row_sub s.shown n hnl
  by_cases h1 : s.shown[n].j < x.j
  ·have hI2 : Hid (∀ k (_ : k < n + 1) (h : k < s.shown.length), q9t s.shown[k].j x.j < 0) := ⟨fun k hk h => if e : k = n then by subst e; exact q7x.2 h1 else hI.out k (by omega) h⟩
   clear hI hW hc
   repeat' (simp -dsimp -implicitDefEqProofs [*])
   exact Next.intro (n + 1) ⟨by omega, hI2⟩ (by omega) (by simp) q5q
  by_cases h2 : s.shown[n].j = x.j
  ·have hp := z0m (d := fun y : Shn => q9t y.j x.j) (sm := fun y => k7e y x) (x := x) hnl (fun k hk h => hI.out k hk h) (cmpI_eq.2 h2)
   have hsm : k7e s.shown[n] x = decide (s.shown[n] = x) := by rw [Bool.eq_iff_iff, z2k (cmpI_eq.2 h2), decide_eq_true_eq]
   have e := hW.out
   rw [hp, hsm] at e
   have c1 := k3v s.shown[n] x (by have := hc.out _ (List.getElem_mem hnl); omega)
   clear hI hW hp hsm hc
   cases hv : decide (s.shown[n] = x) with
   | false =>
    rw [hv] at e c1
    replace e : W = .inr 141 := e
    subst e
    obtain ⟨y, hy⟩ : ∃ y, y = s.shown[n] := ⟨_, rfl⟩
    rw [← hy] at c1 g1 s0 h1 h2
    simp only [← hy] at E1
    clear hv hy
    simp only [k6k, k7n]
    repeat' (first 
     | (with_reducible refine Rets.xcall (c1 _) ?_)
     | (with_reducible refine DrawLate.intro [] ?_)
     | (simp -dsimp -implicitDefEqProofs [*]))
    exact RetView.le (PLe.tuple2 q57 (.refl _)) (RetView.drop (st' := st) q5q ⟨rfl, rfl⟩)
   | true =>
    rw [hv] at e c1
    replace e : W = .inl s.shown := e
    subst e
    obtain ⟨y, hy⟩ : ∃ y, y = s.shown[n] := ⟨_, rfl⟩
    rw [← hy] at c1 g1 s0 h1 h2
    simp only [← hy] at E1
    clear hv hy
    simp only [k6k, k7n]
    repeat' (first 
     | (with_reducible refine Rets.xcall (c1 _) ?_)
     | (with_reducible refine DrawLate.intro [] ?_)
     | (simp -dsimp -implicitDefEqProofs [*]))
    exact RetView.drop (st' := st) q5q ⟨rfl, rfl⟩
  ·have hp := k7o (d := fun y : Shn => q9t y.j x.j) (sm := fun y => k7e y x) (x := x) hn (fun k hk h => hI.out k hk h) (fun _ => k7f.2 (by omega))
   have e := hW.out
   rw [hp] at e
   replace e : W = .inl (ins s.shown n x) := e
   subst e
   clear hI hW hp hc
   simp only [k6k, k7n]
   obtain ⟨Z, hZ⟩ : ∃ Z, Z = ({ s with shown := ins s.shown n x } : Ses) := ⟨_, rfl⟩
   rw [← hZ]
   replace hZ := Hid.mk hZ
   repeat' (first 
    | (with_reducible refine DrawLate.intro [] ?_)
    | (simp -dsimp -implicitDefEqProofs [-q5f, *]))
   refine q50 Shn.row_len Shn.row_append (none : Option (Acc Shn)) trivial (s.shown.take n) rfl (by simp; omega) (by simp; omega) fun o1 ho1 hl1 => ?_
   refine q76 (q6i ho1 (Cls.self _ _)) ?_
   repeat' (simp -dsimp -implicitDefEqProofs [-q5f, *])
   refine q50 Shn.row_len Shn.row_append o1 ho1 [x] (by simp) (by simp) (by simp [hl1]; omega) fun o2 ho2 hl2 => ?_
   refine q76 (q6i ho2 (Cls.self _ _)) ?_
   repeat' (simp -dsimp -implicitDefEqProofs [-q5f, *])
   refine q50 Shn.row_len Shn.row_append o2 ho2 (s.shown.drop n) rfl (by simp) (by simp [hl1, hl2]; omega) fun o3 ho3 hl3 => ?_
   refine q76 (q6i ho3 (Cls.self _ _)) ?_
   have hfin : Hid (q59 o3 = ins s.shown n x) := ⟨by rw [hl3, hl2, hl1]; simp [ins]⟩
   clear ho1 hl1 ho2 hl2 hl3
   cases o3 with
   | none => exact absurd hfin.out (by simp [ins])
   | some a =>
    obtain ⟨ha, hsn⟩ := ho3
    simp only [k0t] at hsn
    simp only [q6z, j77]
    replace ha := Hid.mk ha
    repeat' (simp -dsimp -implicitDefEqProofs [-q5f, *])
    clear hse hsc
    refine RetView.freeze (.tuple [Z.pv, .int 0]) (by simp [*]) (.tuple (.cons (.agg ?_) (.cons (.refl _) .nil))) (RetView.drop (st' := st) q5q ⟨rfl, rfl⟩)
    have e1 : a.l = ins s.shown n x := hfin.out
    rw [hZ.out, ← Ses.set9, ← e1]
    exact Frzs.setAt (Frz.acc ha.out) _ _
 ·have hp := k7o (d := fun y : Shn => q9t y.j x.j) (sm := fun y => k7e y x) (x := x) hn (fun k hk h => hI.out k hk h) (fun h => absurd h hnl)
  have e := hW.out
  rw [hp] at e
  replace e : W = .inl (ins s.shown n x) := e
  subst e
  clear hI hW hp hc
  simp only [k6k, k7n]
  obtain ⟨Z, hZ⟩ : ∃ Z, Z = ({ s with shown := ins s.shown n x } : Ses) := ⟨_, rfl⟩
  rw [← hZ]
  replace hZ := Hid.mk hZ
  repeat' (first 
   | (with_reducible refine DrawLate.intro [] ?_)
   | (simp -dsimp -implicitDefEqProofs [-q5f, *]))
  refine q50 Shn.row_len Shn.row_append (none : Option (Acc Shn)) trivial (s.shown.take n) rfl (by simp; omega) (by simp; omega) fun o1 ho1 hl1 => ?_
  refine q76 (q6i ho1 (Cls.self _ _)) ?_
  repeat' (simp -dsimp -implicitDefEqProofs [-q5f, *])
  refine q50 Shn.row_len Shn.row_append o1 ho1 [x] (by simp) (by simp) (by simp [hl1]; omega) fun o2 ho2 hl2 => ?_
  refine q76 (q6i ho2 (Cls.self _ _)) ?_
  repeat' (simp -dsimp -implicitDefEqProofs [-q5f, *])
  refine q50 Shn.row_len Shn.row_append o2 ho2 (s.shown.drop n) rfl (by simp) (by simp [hl1, hl2]; omega) fun o3 ho3 hl3 => ?_
  refine q76 (q6i ho3 (Cls.self _ _)) ?_
  have hfin : Hid (q59 o3 = ins s.shown n x) := ⟨by rw [hl3, hl2, hl1]; simp [ins]⟩
  clear ho1 hl1 ho2 hl2 hl3
  cases o3 with
  | none => exact absurd hfin.out (by simp [ins])
  | some a =>
   obtain ⟨ha, hsn⟩ := ho3
   simp only [k0t] at hsn
   simp only [q6z, j77]
   replace ha := Hid.mk ha
   repeat' (simp -dsimp -implicitDefEqProofs [-q5f, *])
   clear hse hsc
   refine RetView.freeze (.tuple [Z.pv, .int 0]) (by simp [*]) (.tuple (.cons (.agg ?_) (.cons (.refl _) .nil))) (RetView.drop (st' := st) q5q ⟨rfl, rfl⟩)
   have e1 : a.l = ins s.shown n x := hfin.out
   rw [hZ.out, ← Ses.set9, ← e1]
   exact Frzs.setAt (Frz.acc ha.out) _ _
open Go.Pv
set_option maxRecDepth 100000
set_option maxHeartbeats 16000000
def k6l (f : List Sh → Ses) : List Sh ⊕ Int → Ses
 | .inl l => f l
 | .inr _ => zeroSes
theorem z75 (s : Ses) (hL : s.Len) (x : Sh) (st : q5d) : Rets P F.q3y [s.pv, x.pv] st (.tuple [(k6l (fun l => { s with keys := l }) (q95 s x)).pv, .int (k7n (q95 s x))]) := by
 have co := k13 s
 have cs := k8g s hL.judges x
 have hl := hL.keys
 obtain ⟨W, hW⟩ : ∃ W, W = q95 s x := ⟨_, rfl⟩
 rw [← hW]
 unfold q95 at hW
 clear hL
 generalize q78 s = O at *
 generalize q7b s x = S at *
 refine H.q3y.view q5m rfl rfl ?_
 cases O with
 | false =>
  replace hW : W = .inr 360 := hW
  subst hW
  simp only [k6l, k7n]
  clear cs
  repeat' (first 
   | (with_reducible refine Fresh.intro fun b hb => ?_) <;> (try simp -dsimp -implicitDefEqProofs [*] at hb)
   | (with_reducible refine Rets.xcall (co _) ?_)
   | (simp -dsimp -implicitDefEqProofs [*]))
  exact RetView.le (PLe.tuple2 q57 (.refl _)) (RetView.drop (st' := st) q5q ⟨rfl, rfl⟩)
 | true =>
 cases S with
 | false =>
  replace hW : W = .inr 1 := hW
  subst hW
  simp only [k6l, k7n]
  repeat' (first 
   | (with_reducible refine Fresh.intro fun b hb => ?_) <;> (try simp -dsimp -implicitDefEqProofs [*] at hb)
   | (with_reducible refine Rets.xcall (co _) ?_)
   | (with_reducible refine Rets.xcall (cs _) ?_)
   | (simp -dsimp -implicitDefEqProofs [*]))
  exact RetView.le (PLe.tuple2 q57 (.refl _)) (RetView.drop (st' := st) q5q ⟨rfl, rfl⟩)
 | true =>
 replace hW : W = match y2t s x with
  | some l => .inl l
  | none => .inr 141 := hW
 unfold y2t at hW
 replace hW := Hid.mk hW
 repeat' (first 
  | (with_reducible refine Fresh.intro fun b hb => ?_) <;> (try simp -dsimp -implicitDefEqProofs [*] at hb)
  | (with_reducible refine Rets.xcall (co _) ?_)
  | (with_reducible refine Rets.xcall (cs _) ?_)
  | (simp -dsimp -implicitDefEqProofs [*]))
 revert b
 revert b
 revert b
 intro b1 hb1 b2 hb2 b3 hb3
 clear co cs
 have hse : ∀ v, sub (s.enc.set 8 v) 0 10 = some (s.enc.set 8 v) := fun v => sub_all (by simp)
 have hsc : ∀ v, q5i [.int 0, .int 0, .int 0, .nil, .int 0, .int 0, .int 0, .nil, .nil, .nil] 0 (s.enc.set 8 v) = s.enc.set 8 v := fun v => q56 _ _ (by simp)
 refine q5g (fun n : Nat => [(2, .ptr b1 0), (3, .ptr b2 0), (4, .ptr b3 0), (5, .int 0), (6, .int n)]) (fun _ => (b3, .arr T.apiSession [.int 0, .int 0, .int 0, .nil, .int 0, .int 0, .int 0, .nil, .nil, .nil]) :: (b2, .arr T.apiKeyShare x.enc) :: (b1, .arr T.apiSession s.enc) :: st) (fun n => n ≤ s.keys.length ∧ Hid (∀ k (_ : k < n) (h : k < s.keys.length), q82 s.keys[k] x < 0)) (fun n => s.keys.length - n) 0 ⟨Nat.zero_le _, ⟨fun k h => absurd h (by omega)⟩⟩ (by simp) (.refl _) ?_
 rintro n ⟨hn, hI⟩
 have hold : s.enc[8]'(by simp) = Sh.lst false s.keys := rfl
 have hlt : (Sh.row s.keys).take (n * 4) = Sh.row (s.keys.take n) := Sh.row_take s.keys n
 have hld : (Sh.row s.keys).drop (n * 4) = Sh.row (s.keys.drop n) := Sh.row_drop s.keys n
 have hmin : min (n * 4) (s.keys.length * 4) = n * 4 := by omega
 have hsub : s.keys.length * 4 - n * 4 = (s.keys.length - n) * 4 := by omega
 by_cases hnl : n < s.keys.length
 ·have hw := q5h (n := n) (by omega)
  have hk0 : n * 4 < s.keys.length * 4 := by omega
  have s0 := Sh.row_sub s.keys n hnl
  have c1 := k3u s.keys[n] x
  have c2 := k3u x s.keys[n]
  by_cases h1 : q82 s.keys[n] x < 0
  ·have hI2 : Hid (∀ k (_ : k < n + 1) (h : k < s.keys.length), q82 s.keys[k] x < 0) := ⟨fun k hk h => if e : k = n then by subst e; exact h1 else hI.out k (by omega) h⟩
   rw [decide_eq_true h1] at c1
   obtain ⟨y, hy⟩ : ∃ y, y = s.keys[n] := ⟨_, rfl⟩
   rw [← hy] at c1 s0
   clear hI hW c2 hy h1
   repeat' (first 
    | (with_reducible refine Rets.xcall (c1 _) ?_)
    | (with_reducible refine DrawLate.intro [] ?_)
    | (simp -dsimp -implicitDefEqProofs [*]))
   exact Next.intro (n + 1) ⟨by omega, hI2⟩ (by omega) (by simp) q5q
  rw [decide_eq_false h1] at c1
  by_cases h2 : q82 s.keys[n] x = 0
  ·have hp := z0m (d := fun y : Sh => q82 y x) (sm := fun y => decide (y = x)) (x := x) hnl (fun k hk h => hI.out k hk h) h2
   have h3 : ¬ q82 x s.keys[n] < 0 := fun h => by have := (kc_share.sw s.keys[n] x).2 h; omega
   rw [decide_eq_false h3] at c2
   have e := hW.out
   rw [hp] at e
   clear hI hW hp h3 h2 h1
   cases hv : decide (s.keys[n] = x) with
   | false =>
    rw [hv] at e
    replace e : W = .inr 141 := e
    subst e
    replace hv := of_decide_eq_false hv
    obtain ⟨y, hy⟩ : ∃ y, y = s.keys[n] := ⟨_, rfl⟩
    rw [← hy] at c1 c2 s0 hv
    clear hy
    simp only [k6l, k7n]
    repeat' (first 
     | (with_reducible refine Rets.xcall (c1 _) ?_)
     | (with_reducible refine Rets.xcall (c2 _) ?_)
     | (with_reducible refine DrawLate.intro [] ?_)
     | (simp -dsimp -implicitDefEqProofs [*]))
    exact RetView.le (PLe.tuple2 q57 (.refl _)) (RetView.drop (st' := st) q5q ⟨rfl, rfl⟩)
   | true =>
    rw [hv] at e
    replace e : W = .inl s.keys := e
    subst e
    replace hv := of_decide_eq_true hv
    rw [hv] at c1 c2 s0
    clear hv
    simp only [k6l, k7n]
    repeat' (first 
     | (with_reducible refine Rets.xcall (c1 _) ?_)
     | (with_reducible refine DrawLate.intro [] ?_)
     | (simp -dsimp -implicitDefEqProofs [*]))
    exact RetView.drop (st' := st) q5q ⟨rfl, rfl⟩
  ·have h3 : q82 x s.keys[n] < 0 := (kc_share.sw s.keys[n] x).1 (by omega)
   rw [decide_eq_true h3] at c2
   have hp := k7o (d := fun y : Sh => q82 y x) (sm := fun y => decide (y = x)) (x := x) hn (fun k hk h => hI.out k hk h) (fun _ => show 0 < q82 s.keys[n] x by omega)
   have e := hW.out
   rw [hp] at e
   replace e : W = .inl (ins s.keys n x) := e
   subst e
   obtain ⟨y, hy⟩ : ∃ y, y = s.keys[n] := ⟨_, rfl⟩
   rw [← hy] at c1 c2 s0
   clear hI hW hp h1 h2 h3 hy
   simp only [k6l, k7n]
   obtain ⟨Z, hZ⟩ : ∃ Z, Z = ({ s with keys := ins s.keys n x } : Ses) := ⟨_, rfl⟩
   rw [← hZ]
   replace hZ := Hid.mk hZ
   repeat' (first 
    | (with_reducible refine Rets.xcall (c1 _) ?_)
    | (with_reducible refine Rets.xcall (c2 _) ?_)
    | (with_reducible refine DrawLate.intro [] ?_)
    | (simp -dsimp -implicitDefEqProofs [-q5f, *]))
   refine q50 Sh.row_len Sh.row_append (none : Option (Acc Sh)) trivial (s.keys.take n) rfl (by simp; omega) (by simp; omega) fun o1 ho1 hl1 => ?_
   refine q76 (q6i ho1 (Cls.self _ _)) ?_
   repeat' (simp -dsimp -implicitDefEqProofs [-q5f, *])
   refine q50 Sh.row_len Sh.row_append o1 ho1 [x] (by simp) (by simp) (by simp [hl1]; omega) fun o2 ho2 hl2 => ?_
   refine q76 (q6i ho2 (Cls.self _ _)) ?_
   repeat' (simp -dsimp -implicitDefEqProofs [-q5f, *])
   refine q50 Sh.row_len Sh.row_append o2 ho2 (s.keys.drop n) rfl (by simp) (by simp [hl1, hl2]; omega) fun o3 ho3 hl3 => ?_
   refine q76 (q6i ho3 (Cls.self _ _)) ?_
   have hfin : Hid (q59 o3 = ins s.keys n x) := ⟨by rw [hl3, hl2, hl1]; simp [ins]⟩
   clear ho1 hl1 ho2 hl2 hl3
   cases o3 with
   | none => exact absurd hfin.out (by simp [ins])
   | some a =>
    obtain ⟨ha, hsn⟩ := ho3
    simp only [k0t] at hsn
    simp only [q6z, j77]
    replace ha := Hid.mk ha
    repeat' (simp -dsimp -implicitDefEqProofs [-q5f, *])
    clear hse hsc
    refine RetView.freeze (.tuple [Z.pv, .int 0]) (by simp [*]) (.tuple (.cons (.agg ?_) (.cons (.refl _) .nil))) (RetView.drop (st' := st) q5q ⟨rfl, rfl⟩)
    have e1 : a.l = ins s.keys n x := hfin.out
    rw [hZ.out, ← Ses.set8, ← e1]
    exact Frzs.setAt (Frz.acc ha.out) _ _
 ·have hp := k7o (d := fun y : Sh => q82 y x) (sm := fun y => decide (y = x)) (x := x) hn (fun k hk h => hI.out k hk h) (fun h => absurd h hnl)
  have e := hW.out
  rw [hp] at e
  replace e : W = .inl (ins s.keys n x) := e
  subst e
  clear hI hW hp
  simp only [k6l, k7n]
  obtain ⟨Z, hZ⟩ : ∃ Z, Z = ({ s with keys := ins s.keys n x } : Ses) := ⟨_, rfl⟩
  rw [← hZ]
  replace hZ := Hid.mk hZ
  repeat' (first 
   | (with_reducible refine DrawLate.intro [] ?_)
   | (simp -dsimp -implicitDefEqProofs [-q5f, *]))
  refine q50 Sh.row_len Sh.row_append (none : Option (Acc Sh)) trivial (s.keys.take n) rfl (by simp; omega) (by simp; omega) fun o1 ho1 hl1 => ?_
  refine q76 (q6i ho1 (Cls.self _ _)) ?_
  repeat' (simp -dsimp -implicitDefEqProofs [-q5f, *])
  refine q50 Sh.row_len Sh.row_append o1 ho1 [x] (by simp) (by simp) (by simp [hl1]; omega) fun o2 ho2 hl2 => ?_
  refine q76 (q6i ho2 (Cls.self _ _)) ?_
  repeat' (simp -dsimp -implicitDefEqProofs [-q5f, *])
  refine q50 Sh.row_len Sh.row_append o2 ho2 (s.keys.drop n) rfl (by simp) (by simp [hl1, hl2]; omega) fun o3 ho3 hl3 => ?_
  refine q76 (q6i ho3 (Cls.self _ _)) ?_
  have hfin : Hid (q59 o3 = ins s.keys n x) := ⟨by rw [hl3, hl2, hl1]; simp [ins]⟩
  clear ho1 hl1 ho2 hl2 hl3
  cases o3 with
  | none => exact absurd hfin.out (by simp [ins])
  | some a =>
   obtain ⟨ha, hsn⟩ := ho3
   simp only [k0t] at hsn
   simp only [q6z, j77]
   replace ha := Hid.mk ha
   repeat' (simp -dsimp -implicitDefEqProofs [-q5f, *])
   clear hse hsc
   refine RetView.freeze (.tuple [Z.pv, .int 0]) (by simp [*]) (.tuple (.cons (.agg ?_) (.cons (.refl _) .nil))) (RetView.drop (st' := st) q5q ⟨rfl, rfl⟩)
   have e1 : a.l = ins s.keys n x := hfin.out
   rw [hZ.out, ← Ses.set8, ← e1]
   exact Frzs.setAt (Frz.acc ha.out) _ _
open Go.Pv
set_option maxRecDepth 100000
set_option maxHeartbeats 16000000
theorem j64 (s : Ses) (hL : s.Len) (a : Act) (ha : a.card.c.length ≤ 100000) (ha2 : a.shown.k.length ≤ 100000) (st : q5d) : Rets P F.q4n [s.pv, a.pv] st (.tuple [(doS s a).pv, .int (doE s a)]) := by
 have c := k2o s hL
 have cS := j08 s hL a.card ha
 have cH := z75 s hL a.key
 have cN := j09 s hL a.shown ha2
 unfold doS doE doR
 clear hL ha ha2
 refine H.q4n.view q5m rfl rfl ?_
 by_cases hR : q6g s = true
 case neg =>
  rw [if_neg hR]
  rw [Bool.eq_false_iff.2 hR] at c
  clear hR cS cH cN
  repeat' (first 
   | (with_reducible refine Fresh.intro fun b hb => ?_) <;> (try simp -dsimp -implicitDefEqProofs [*] at hb)
   | (with_reducible refine Rets.xcall (c _) ?_)
   | (simp -dsimp -implicitDefEqProofs [*]))
  exact RetView.le (PLe.tuple2 q57 (.refl _)) (RetView.drop (st' := st) q5q ⟨rfl, rfl⟩)
 rw [if_pos hR]
 rw [hR] at c
 clear hR
 by_cases k1 : a.kind = 1
 ·rw [if_pos k1]
  clear cS cH cN
  cases hp : k8m s a with
  | false =>
   rw [if_neg (by simp)]
   simp only
   unfold k8m at hp
   by_cases h1 : s.time ≤ a.time
   ·have h2 : ¬ a.time < 2097152 := fun h2 => by rw [decide_eq_true h1, decide_eq_true h2] at hp; cases hp
    clear hp
    repeat' (first 
     | (with_reducible refine Fresh.intro fun b hb => ?_) <;> (try simp -dsimp -implicitDefEqProofs [*] at hb)
     | (with_reducible refine Rets.xcall (c _) ?_)
     | (with_reducible refine And.intro (fun h => ?_) (fun h => ?_)) <;> (try (exfalso; omega))
     | (simp -dsimp -implicitDefEqProofs [*]))
    exact RetView.le (PLe.tuple2 q57 (.refl _)) (RetView.drop (st' := st) q5q ⟨rfl, rfl⟩)
   ·clear hp
    have h2 : a.time < s.time := by omega
    repeat' (first 
     | (with_reducible refine Fresh.intro fun b hb => ?_) <;> (try simp -dsimp -implicitDefEqProofs [*] at hb)
     | (with_reducible refine Rets.xcall (c _) ?_)
     | (simp -dsimp -implicitDefEqProofs [*]))
    exact RetView.le (PLe.tuple2 q57 (.refl _)) (RetView.drop (st' := st) q5q ⟨rfl, rfl⟩)
  | true =>
   rw [if_pos rfl]
   simp only
   unfold k8m at hp
   simp only [Bool.and_eq_true, decide_eq_true_eq] at hp
   obtain ⟨h1, h2⟩ := hp
   repeat' (first 
    | (with_reducible refine Fresh.intro fun b hb => ?_) <;> (try simp -dsimp -implicitDefEqProofs [*] at hb)
    | (with_reducible refine Rets.xcall (c _) ?_)
    | (with_reducible refine And.intro (fun h => ?_) ?_) <;> (try (exfalso; omega))
    | (simp -dsimp -implicitDefEqProofs [*]))
   exact RetView.drop (st' := st) q5q ⟨rfl, rfl⟩
 rw [if_neg k1]
 by_cases k2 : a.kind = 2
 ·rw [if_pos k2]
  clear cH cN k1
  cases hp : k2v s a.card with
  | inr v =>
   rw [hp] at cS
   simp only [k6j, k7n] at cS
   clear hp
   repeat' (first 
    | (with_reducible refine Fresh.intro fun b hb => ?_) <;> (try simp -dsimp -implicitDefEqProofs [*] at hb)
    | (with_reducible refine Rets.xcall (c _) ?_)
    | (with_reducible refine Rets.xcall (cS _) ?_)
    | (simp -dsimp -implicitDefEqProofs [*]))
   exact RetView.drop (st' := st) q5q ⟨rfl, rfl⟩
  | inl v =>
   rw [hp] at cS
   simp only [k6j, k7n] at cS
   clear hp
   obtain ⟨Z, hZ⟩ : ∃ Z, Z = ({ s with sealed := v } : Ses) := ⟨_, rfl⟩
   simp only [← hZ] at cS ⊢
   replace hZ := Hid.mk hZ
   repeat' (first 
    | (with_reducible refine Fresh.intro fun b hb => ?_) <;> (try simp -dsimp -implicitDefEqProofs [*] at hb)
    | (with_reducible refine Rets.xcall (c _) ?_)
    | (with_reducible refine Rets.xcall (cS _) ?_)
    | (simp -dsimp -implicitDefEqProofs [*]))
   exact RetView.drop (st' := st) q5q ⟨by rw [hZ.out], rfl⟩
 rw [if_neg k2]
 by_cases k3 : a.kind = 3
 ·rw [if_pos k3]
  clear cS cN k1 k2
  cases hp : q95 s a.key with
  | inr v =>
   rw [hp] at cH
   simp only [k6l, k7n] at cH
   clear hp
   repeat' (first 
    | (with_reducible refine Fresh.intro fun b hb => ?_) <;> (try simp -dsimp -implicitDefEqProofs [*] at hb)
    | (with_reducible refine Rets.xcall (c _) ?_)
    | (with_reducible refine Rets.xcall (cH _) ?_)
    | (simp -dsimp -implicitDefEqProofs [*]))
   exact RetView.drop (st' := st) q5q ⟨rfl, rfl⟩
  | inl v =>
   rw [hp] at cH
   simp only [k6l, k7n] at cH
   clear hp
   obtain ⟨Z, hZ⟩ : ∃ Z, Z = ({ s with keys := v } : Ses) := ⟨_, rfl⟩
   simp only [← hZ] at cH ⊢
   replace hZ := Hid.mk hZ
   repeat' (first 
    | (with_reducible refine Fresh.intro fun b hb => ?_) <;> (try simp -dsimp -implicitDefEqProofs [*] at hb)
    | (with_reducible refine Rets.xcall (c _) ?_)
    | (with_reducible refine Rets.xcall (cH _) ?_)
    | (simp -dsimp -implicitDefEqProofs [*]))
   exact RetView.drop (st' := st) q5q ⟨by rw [hZ.out], rfl⟩
 rw [if_neg k3]
 by_cases k4 : a.kind = 4
 ·rw [if_pos k4]
  clear cS cH k1 k2 k3
  cases hp : k2w s a.shown with
  | inr v =>
   rw [hp] at cN
   simp only [k6k, k7n] at cN
   clear hp
   repeat' (first 
    | (with_reducible refine Fresh.intro fun b hb => ?_) <;> (try simp -dsimp -implicitDefEqProofs [*] at hb)
    | (with_reducible refine Rets.xcall (c _) ?_)
    | (with_reducible refine Rets.xcall (cN _) ?_)
    | (simp -dsimp -implicitDefEqProofs [*]))
   exact RetView.drop (st' := st) q5q ⟨rfl, rfl⟩
  | inl v =>
   rw [hp] at cN
   simp only [k6k, k7n] at cN
   clear hp
   obtain ⟨Z, hZ⟩ : ∃ Z, Z = ({ s with shown := v } : Ses) := ⟨_, rfl⟩
   simp only [← hZ] at cN ⊢
   replace hZ := Hid.mk hZ
   repeat' (first 
    | (with_reducible refine Fresh.intro fun b hb => ?_) <;> (try simp -dsimp -implicitDefEqProofs [*] at hb)
    | (with_reducible refine Rets.xcall (c _) ?_)
    | (with_reducible refine Rets.xcall (cN _) ?_)
    | (simp -dsimp -implicitDefEqProofs [*]))
   exact RetView.drop (st' := st) q5q ⟨by rw [hZ.out], rfl⟩
 rw [if_neg k4]
 simp only
 clear cS cH cN
 repeat' (first 
  | (with_reducible refine Fresh.intro fun b hb => ?_) <;> (try simp -dsimp -implicitDefEqProofs [*] at hb)
  | (with_reducible refine Rets.xcall (c _) ?_)
  | (simp -dsimp -implicitDefEqProofs [*]))
 exact RetView.le (PLe.tuple2 q57 (.refl _)) (RetView.drop (st' := st) q5q ⟨rfl, rfl⟩)
open Go.Pv
set_option maxRecDepth 100000
set_option maxHeartbeats 16000000
theorem j1a (s : Ses) (hw : Wide s) (a : Act) (st : q5d) (hG : GL st) : Rets P F.q1d [s.pv, a.pv] st (.bool true) := by
 have hN := q6l hG.h0 hG.h1
 have h0 := hG.h0
 have h1 := hG.h1
 have cs := fun st h0 h1 => z74 st ⟨h0, h1⟩
 have cf := j32 s
 have ca := z5u a
 by_cases hF : y2v s = true
 case neg =>
  rw [Bool.eq_false_iff.2 hF] at cf
  clear hF hw hG ca
  refine H.q1d.view q5m rfl rfl ?_
  repeat' (first 
   | (with_reducible refine Fresh.intro fun b hb => ?_) <;> (try simp -dsimp -implicitDefEqProofs [*] at hb)
   | (with_reducible refine Rets.xcall (cs _ (by simp [*]) (by simp [*])) ?_)
   | (with_reducible refine Rets.xcall (cf _) ?_)
   | (simp -dsimp -implicitDefEqProofs [*]))
  exact RetView.drop (st' := st) q5q ⟨rfl, rfl⟩
 by_cases hA : y5f a = true
 case neg =>
  rw [hF] at cf
  rw [Bool.eq_false_iff.2 hA] at ca
  clear hF hA hw hG
  refine H.q1d.view q5m rfl rfl ?_
  repeat' (first 
   | (with_reducible refine Fresh.intro fun b hb => ?_) <;> (try simp -dsimp -implicitDefEqProofs [*] at hb)
   | (with_reducible refine Rets.xcall (cs _ (by simp [*]) (by simp [*])) ?_)
   | (with_reducible refine Rets.xcall (cf _) ?_)
   | (with_reducible refine Rets.xcall (ca _) ?_)
   | (simp -dsimp -implicitDefEqProofs [*]))
  exact RetView.drop (st' := st) q5q ⟨rfl, rfl⟩
 obtain ⟨hL, l1, l2, l3, l4⟩ := y0x hF hw.c hw.n
 obtain ⟨a1, a2⟩ := j6s hA
 rw [hF] at cf
 rw [hA] at ca
 have p1 := fun st h0 h1 => z0d s.round s.entry s.crits s.judges s.need s.deadline hL.judges hL.crits hL.need st ⟨h0, h1⟩
 have p2 := fun st => j34 s.round s.entry s.crits s.judges s.need s.deadline hL.judges hL.crits hL.need st
 have lN : (if q6g (k20 s.round s.entry s.crits s.judges s.need s.deadline) = true then k20 s.round s.entry s.crits s.judges s.need s.deadline else zeroSes).Len := by
  split
  ·exact j63 hL
  ·exact k5e
 have p3 := fun st h0 h1 => z2f s hL st ⟨h0, h1⟩
 have p4 := j0z s hL
 have p5 := fun st h0 h1 => z35 s hL a a1 a2 ⟨by omega, by omega, by omega⟩ st ⟨h0, h1⟩
 have p6 := j64 s hL a a1 a2
 have p7 := fun st h0 h1 => q9p s hL st ⟨h0, h1⟩
 have p8 := z7x s hL
 have p9 := z2j _ (y05 hL (by omega) (by omega) (by omega) a1 a2)
 obtain ⟨N, hNN⟩ : ∃ N, N = (if q6g (k20 s.round s.entry s.crits s.judges s.need s.deadline) = true then k20 s.round s.entry s.crits s.judges s.need s.deadline else zeroSes) := ⟨_, rfl⟩
 rw [← hNN] at p1 p2 lN
 have p10 := z2j N lN
 obtain ⟨X, hX⟩ : ∃ X, X = doS s a := ⟨_, rfl⟩
 rw [← hX] at p5 p6 p9
 generalize (if q6g (k20 s.round s.entry s.crits s.judges s.need s.deadline) = true then (0 : Int) else 1) = E1 at *
 generalize (if q6g s = true then (0 : Int) else 360) = E2 at *
 generalize (q6g s && q78 s) = B1 at *
 generalize doE s a = E3 at *
 clear hNN hX lN hL l1 l2 l3 l4 a1 a2 hF hA hw hG
 refine H.q1d.view q5m rfl rfl ?_
 repeat' (first 
  | (with_reducible refine Fresh.intro fun b hb => ?_) <;> (try simp -dsimp -implicitDefEqProofs [*] at hb)
  | (with_reducible refine Rets.xcall (cs _ (by simp [*]) (by simp [*])) ?_)
  | (with_reducible refine Rets.xcall (cf _) ?_)
  | (with_reducible refine Rets.xcall (ca _) ?_)
  | (with_reducible refine Rets.xcall (p1 _ (by simp [*]) (by simp [*])) ?_)
  | (with_reducible refine Rets.xcall (p2 _) ?_)
  | (with_reducible refine Rets.xcall (p3 _ (by simp [*]) (by simp [*])) ?_)
  | (with_reducible refine Rets.xcall (p4 _) ?_)
  | (with_reducible refine Rets.xcall (p5 _ (by simp [*]) (by simp [*])) ?_)
  | (with_reducible refine Rets.xcall (p6 _) ?_)
  | (with_reducible refine Rets.xcall (p7 _ (by simp [*]) (by simp [*])) ?_)
  | (with_reducible refine Rets.xcall (p8 _) ?_)
  | (with_reducible refine Rets.xcall (p9 _) ?_)
  | (with_reducible refine Rets.xcall (p10 _) ?_)
  | (with_reducible refine DrawLate.intro [] ?_)
  | (simp -dsimp -implicitDefEqProofs [*]))
 exact RetView.drop (st' := st) q5q ⟨rfl, rfl⟩
end Go.Proofs.YtnooplpbpfiapaaGreatDoor
