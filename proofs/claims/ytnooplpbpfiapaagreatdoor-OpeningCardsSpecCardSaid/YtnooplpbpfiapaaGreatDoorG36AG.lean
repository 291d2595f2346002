/- The marks of a card, by shares; what is known; by the program. -/
import Derived.Test.YtnooplpbpfiapaaGreatDoorG36BF
import Derived.Test.YtnooplpbpfiapaaGreatDoorG36AF
import Derived.Test.YtnooplpbpfiapaaGreatDoorG36BR
import Derived.Test.YtnooplpbpfiapaaGreatDoorS36X
namespace Go.Proofs.YtnooplpbpfiapaaGreatDoor
open Go.Pv Go.Pv.Ip
set_option maxRecDepth 100000
set_option maxHeartbeats 8000000
def q76 (s : Ses) (j : Int) : Nat → Option (List Int)
 | 0 => some []
 | k + 1 => match q76 s j k with
  | none => none
  | some l => match j04 j k s.keys s.need.toNat with
   | none => none
   | some v => some (l ++ [v])
theorem k0n {s : Ses} {j : Int} : ∀ {k : Nat} {l : List Int}, q76 s j k = some l → l.length = k
 | 0, l, h => by cases h; rfl
 | k + 1, l, h => by
  rw [q76] at h
  cases h1 : q76 s j k with
  | none => rw [h1] at h; cases h
  | some m =>
   rw [h1] at h
   have := k0n h1
   cases h2 : j04 j k s.keys s.need.toNat with
   | none => rw [h2] at h; cases h
   | some v =>
    rw [h2] at h
    cases h
    simp [this]
theorem k95 {s : Ses} {j : Int} {k : Nat} (h : q76 s j k = none) : ∀ n, q76 s j (k + n) = none
 | 0 => h
 | n + 1 => by
  show q76 s j (k + n + 1) = none
  rw [q76, k95 h n]
def k1n (s : Ses) (x : Card) : Option (List Int) := match q76 s x.j s.crits.toNat with
 | none => none
 | some ks => q8d x.r x.e x.j x.c ks
def z30 (s : Ses) (x : Card) : PV := match q76 s x.j s.crits.toNat with
 | none => .tuple [.agg [.int 0, .nil], .bool false]
 | some ks => .tuple [.agg [.int 2, k22 (q8d x.r x.e x.j x.c ks)], .bool (q8d x.r x.e x.j x.c ks).isSome]
theorem k0l {α : Type} {row : List α → List PV} {k : Nat} {T : TypeId} {st : q5d} {o : Option (Acc α)} (ho : accOk row k st o) {b : Nat} {x : PObj} (h : q5w st b = some x) : q5w (q6o T st o) b = some x := by
 cases o with
 | none => exact h
 | some a => exact (StLe.fresh ho.2) _ _ h
theorem z5t (s : Ses) (hR : RightP s) (hl : s.keys.length ≤ 1000) (x : Card) (hx : x.c.length ≤ 100000) (st : q5d) : Rets P F.q15 [s.pv, x.pv] st (z30 s x) := by
 obtain ⟨n, hn⟩ : ∃ n : Nat, s.need = n := ⟨s.need.toNat, by have := hR.need; omega⟩
 obtain ⟨m, hm⟩ : ∃ m : Nat, s.crits = m := ⟨s.crits.toNat, by have := hR.crits; omega⟩
 have hm64 : m ≤ 64 := by have := hR.crits; omega
 have hn24 : n ≤ 24 := by have := hR.need; have := hR.many; omega
 have ck := fun c : Nat => j6w s x.j c n hn hn24 hl hR.holder (hR.good x.j c n)
 have hst : Hid (∀ k, q76 s x.j (k + 1) = match q76 s x.j k with
  | none => none
  | some l => match j04 x.j k s.keys n with
   | none => none
   | some v => some (l ++ [v])) := ⟨fun k => by rw [q76, hn]; rfl⟩
 obtain ⟨W, hW⟩ : ∃ W, W = z30 s x := ⟨_, rfl⟩
 rw [← hW]
 unfold z30 at hW
 rw [hm, Int.toNat_natCast] at hW
 replace hW := Hid.mk hW
 refine H.q15.view q5n rfl rfl ?_
 clear hR hl
 repeat' (first 
  | (with_reducible refine Fresh.intro fun b hb => ?_) <;> (try simp -dsimp -implicitDefEqProofs [*] at hb)
  | (simp -dsimp -implicitDefEqProofs [*]))
 revert b
 revert b
 revert b
 intro b1 hb1 b2 hb2 b3 hb3
 refine k8e (fun y : Nat × Option (Acc Int) => [(2, .ptr b1 0), (3, .ptr b2 0), (4, .ptr b3 0), (6, k1p y.2), (14, .int m), (15, .int y.1)]) (fun y => q6o T.int ((b3, .arr T.apiOpened [.int 0, .nil]) :: (b2, .arr T.apiSealed x.enc) :: (b1, k6h s) :: st) y.2) (fun y => y.1 ≤ m ∧ accOk q6j 1 ((b3, .arr T.apiOpened [.int 0, .nil]) :: (b2, .arr T.apiSealed x.enc) :: (b1, k6h s) :: st) y.2 ∧ q76 s x.j y.1 = some (q5y y.2)) (fun y => m - y.1) (fun y => y.1 = m) (fun y : Nat × Option (Acc Int) => [(2, .ptr b1 0), (3, .ptr b2 0), (4, .ptr b3 0), (6, q5k false (q5y y.2)), (14, .int m), (15, .int y.1)]) (fun _ => (b3, .arr T.apiOpened [.int 0, .nil]) :: (b2, .arr T.apiSealed x.enc) :: (b1, k6h s) :: st)
  ?_ (0, none) ⟨Nat.zero_le _, trivial, rfl⟩ (by simp [hm]) (.refl _) ?_ ?_
 ·intro y h _
  exact View.acc rfl h.2.1 (.refl _) (by simp)
 ·rintro ⟨i, o⟩ ⟨hi, ho, hA⟩ hi2
  replace hi2 : i = m := hi2
  replace hA : q76 s x.j i = some (q5y o) := hA
  subst hi2
  have hkl := k0n hA
  have e := hW.out
  rw [hA] at e
  simp only at e
  simp only
  obtain ⟨ks, hks⟩ : ∃ ks, ks = q5y o := ⟨_, rfl⟩
  rw [← hks] at e hkl ⊢
  have cs := fun st => j0p false false x.r x.e x.j x.c ks hx (by omega) x.d.1 x.d.2 st
  have cs2 : ∀ st, Rets P F.q4x [x.pv, q5k false ks] st (.tuple [k22 (q8d x.r x.e x.j x.c ks), .int (j43 (q8d x.r x.e x.j x.c ks))]) := cs
  generalize q8d x.r x.e x.j x.c ks = O at *
  clear hW hA ho hks cs ck hst hi
  cases O with
  | none =>
   subst e
   simp only [k22, j43, Option.isSome_none] at cs2 ⊢
   repeat' (first 
    | (with_reducible refine Rets.xcall (cs2 _) ?_)
    | (simp -dsimp -implicitDefEqProofs [*]))
   exact RetView.drop (st' := st) q5q ⟨rfl, rfl⟩
  | some v =>
   subst e
   simp only [k22, j43, Option.isSome_some] at cs2 ⊢
   repeat' (first 
    | (with_reducible refine Rets.xcall (cs2 _) ?_)
    | (simp -dsimp -implicitDefEqProofs [*]))
   exact RetView.drop (st' := st) q5q ⟨rfl, rfl⟩
 ·rintro ⟨i, o⟩ ⟨hi, ho, hA⟩ hi2
  replace hi : i ≤ m := hi
  replace hi2 : ¬ i = m := hi2
  replace hA : q76 s x.j i = some (q5y o) := hA
  replace ho : accOk q6j 1 ((b3, .arr T.apiOpened [.int 0, .nil]) :: (b2, .arr T.apiSealed x.enc) :: (b1, k6h s) :: st) o := ho
  have hw := q5h (n := i) (by omega)
  have hil : i < m := by omega
  have hkl := k0n hA
  have e := hst.out i
  rw [hA] at e
  simp only at e
  have c1 := ck i
  simp only
  clear hst ck hA hi2
  cases hv : j04 x.j i s.keys n with
  | none =>
   rw [hv] at e c1
   simp only at e
   have e2 := k95 e (m - (i + 1))
   rw [show i + 1 + (m - (i + 1)) = m by omega] at e2
   have e3 := hW.out
   rw [e2] at e3
   simp only at e3
   subst e3
   simp only [y2p] at c1
   clear hW e e2 hv
   cases o with
   | none =>
    simp only [z4z]
    repeat' (first 
     | (with_reducible refine Rets.xcall (c1 _) ?_)
     | (simp -dsimp -implicitDefEqProofs [*]))
    exact RetView.drop (st' := st) q5q ⟨rfl, rfl⟩
   | some a =>
    obtain ⟨ha, hsn⟩ := ho
    simp only [j2p] at hsn
    simp only [q8q]
    clear ha
    repeat' (first 
     | (with_reducible refine Rets.xcall (c1 _) ?_)
     | (simp -dsimp -implicitDefEqProofs [*]))
    exact RetView.drop (st' := st) q5q ⟨rfl, rfl⟩
  | some v =>
   rw [hv] at e c1
   simp only at e
   simp only [y2p] at c1
   have e := Hid.mk e
   have hg1 := k0l (T := T.int) (b := b1) (x := k6h s) ho (by simp [*])
   have hg2 := k0l (T := T.int) (b := b2) (x := .arr T.apiSealed x.enc) ho (by simp [*])
   clear hW hv
   repeat' (first 
    | (with_reducible refine Rets.xcall (c1 _) ?_)
    | (with_reducible refine Lit.imm ?_)
    | (simp -dsimp -implicitDefEqProofs [*]))
   clear hg1 hg2
   refine k1c k34 k0j o ho [v] (by simp [q6j]) rfl (by omega) (by omega) fun o2 ho2 hl2 => ?_
   have k1 : Hid (q76 s x.j (i + 1) = some (q5y o2)) := ⟨by rw [e.out, hl2]⟩
   clear hl2 e ho
   repeat' (simp -dsimp -implicitDefEqProofs [*])
   exact NextF.intro (fun y h _ => View.acc rfl h.2.1 (.refl _) (by simp)) (i + 1, o2) ⟨by simp only; omega, ho2, k1.out⟩ (by simp only; omega) (by simp) (.refl _)
def z71 (s : Ses) : Bool := decide (s.deadline + 1440 ≤ s.time)
theorem j05 (s : Ses) (hd : 0 ≤ s.deadline ∧ s.deadline < 2097152) (x : Card) (st : q5d) : Rets P F.q2g [s.pv, x.pv] st (.tuple [.agg [.int 3, .nil], .bool (z71 s)]) := by
 have hw : IntKind.i64.wrap (s.deadline + 1440) = s.deadline + 1440 := q5m (by omega) (by omega)
 unfold z71
 refine H.q2g.pure q5n rfl rfl ?_
 repeat' (first 
  | (with_reducible refine Fresh.intro fun b hb => ?_) <;> (try simp -dsimp -implicitDefEqProofs [*] at hb)
  | (simp -dsimp -implicitDefEqProofs [*]))
 refine DrawLate.intro [b] ?_
 repeat' (simp -dsimp -implicitDefEqProofs [*])
def q7a (s : Ses) (j : Int) : Opd :=
 if q8j s = true then (match q8r s j with
  | none => ⟨3, []⟩
  | some x => match q99 s j with
   | some y => ⟨1, (q8s x y).getD []⟩
   | none => match k1n s x with
    | some m => ⟨2, m⟩
    | none => if z71 s = true then ⟨3, []⟩ else ⟨0, []⟩)
 else ⟨0, []⟩
theorem k1o (h : Int) : PLe (.agg [.int h, .nil]) (Opd.pv ⟨h, []⟩) := PLe.agg2 (.refl _) .nil1
theorem j36 (h : Int) (o : Option (List Int)) : PLe (.agg [.int h, k22 o]) (Opd.pv ⟨h, o.getD []⟩) := by
 cases o with
 | none => exact k1o h
 | some m => exact .refl _
theorem z31 {s : Ses} {j : Int} {x : Card} (h : q8r s j = some x) : x.j = j ∧ x ∈ s.sealed :=
 ⟨by have := List.find?_some h; simpa using this, List.mem_of_find?_eq_some h⟩
theorem z72 (s : Ses) (hL : s.Len) (hR : RightP s) (hl : s.keys.length ≤ 1000) (j : Int) (st : q5d) (hG : GL st) : Rets P F.q1q [s.pv, .int j] st (q7a s j).pv := by
 have hN := q6k hG.h0 hG.h1
 have h0 := hG.h0
 have h1 := hG.h1
 have co := q8k s
 obtain ⟨W, hW⟩ : ∃ W, W = q7a s j := ⟨_, rfl⟩
 rw [← hW]
 unfold q7a at hW
 by_cases hO : q8j s = true
 case neg =>
  rw [if_neg hO] at hW
  rw [Bool.eq_false_iff.2 hO] at co
  clear hL hR hG
  subst hW
  refine H.q1q.view q5n rfl rfl ?_
  repeat' (first 
   | (with_reducible refine Fresh.intro fun b hb => ?_) <;> (try simp -dsimp -implicitDefEqProofs [*] at hb)
   | (with_reducible refine Rets.xcall (co _) ?_)
   | (simp -dsimp -implicitDefEqProofs [*]))
  exact RetView.le (k1o 0) (RetView.drop (st' := st) q5q ⟨rfl, rfl⟩)
 rw [if_pos hO] at hW
 rw [hO] at co
 have cc := z12 s hL.sealed hR.sealed j
 cases hx : q8r s j with
 | none =>
  rw [hx] at hW cc
  simp only at hW
  simp only [j32, Option.isSome_none] at cc
  clear hL hR hG
  subst hW
  refine H.q1q.view q5n rfl rfl ?_
  repeat' (first 
   | (with_reducible refine Fresh.intro fun b hb => ?_) <;> (try simp -dsimp -implicitDefEqProofs [*] at hb)
   | (with_reducible refine Rets.xcall (co _) ?_)
   | (with_reducible refine Rets.xcall (cc _) ?_)
   | (simp -dsimp -implicitDefEqProofs [*]))
  exact RetView.le (k1o 3) (RetView.drop (st' := st) q5q ⟨rfl, rfl⟩)
 | some x =>
  obtain ⟨hxj, hxm⟩ := z31 hx
  have hxc := hL.cards x hxm
  rw [hx] at hW cc
  simp only at hW
  simp only [j32, Option.isSome_some] at cc
  have k1 := fun st h0 h1 => z70 s hL hR.shown x hxc st ⟨h0, h1⟩
  have k2 := z5t s hR hl x hxc
  have k3 := j05 s hR.deadline x
  rw [hxj] at k1
  clear hL hR hG hxj hxm hxc hx
  refine H.q1q.view q5n rfl rfl ?_
  repeat' (first 
   | (with_reducible refine Fresh.intro fun b hb => ?_) <;> (try simp -dsimp -implicitDefEqProofs [*] at hb)
   | (with_reducible refine Rets.xcall (co _) ?_)
   | (with_reducible refine Rets.xcall (cc _) ?_)
   | (with_reducible refine Lit.imm ?_)
   | (simp -dsimp -implicitDefEqProofs [*]))
  clear co cc
  revert b
  revert b
  revert b
  intro b1 hb1 b2 hb2 b3 hb3
  have w1 : IntKind.i64.wrap 1 = 1 := by decide
  have w2 : IntKind.i64.wrap 2 = 2 := by decide
  have w3 : IntKind.i64.wrap 3 = 3 := by decide
  refine q5g (fun n : Nat => [(2, .ptr b1 0), (4, .ptr b2 0), (5, .ptr b3 0), (30, .list true [.func (.func F.q1c) [s.pv] [], .func (.func F.q15) [s.pv] [], .func (.func F.q2g) [s.pv] []] 3), (31, .int 3), (32, .int n)]) (fun _ => (b3, .arr T.apiSealed x.enc) :: (b2, .arr T.apiOpened [.int 0, .nil]) :: (b1, k6h s) :: st) (fun n => n ≤ 3 ∧ (0 < n → q99 s j = none) ∧ (1 < n → k1n s x = none) ∧ (2 < n → z71 s = false)) (fun n => 3 - n) 0 ⟨Nat.zero_le _, by omega, by omega, by omega⟩ (by simp) (.refl _) ?_
  rintro n ⟨hn, i1, i2, i3⟩
  rcases (show n = 0 ∨ n = 1 ∨ n = 2 ∨ n = 3 by omega) with rfl | rfl | rfl | rfl
  ·clear i1 i2 i3 k2 k3
   cases hy : q99 s j with
   | none =>
    rw [hy] at k1
    replace k1 : ∀ st, q5w st 0 = some (.arr T.t8uint32 Sha.start.row) → q5w st 1 = some q9o → Rets P F.q1c [s.pv, x.pv] st (.tuple [.agg [.int 0, .nil], .bool false]) := k1
    clear hW hy
    repeat' (first 
     | (with_reducible refine Fresh.intro fun b hb => ?_) <;> (try simp -dsimp -implicitDefEqProofs [*] at hb)
     | (with_reducible refine Rets.xcall (k1 _ (by simp [*]) (by simp [*])) ?_)
     | (simp -dsimp -implicitDefEqProofs [*]))
    exact Next.intro 1 ⟨by omega, fun _ => rfl, by omega, by omega⟩ (by omega) (by simp [w1]) q5q
   | some y =>
    rw [hy] at k1 hW
    simp only at hW
    subst hW
    replace k1 : ∀ st, q5w st 0 = some (.arr T.t8uint32 Sha.start.row) → q5w st 1 = some q9o → Rets P F.q1c [s.pv, x.pv] st (.tuple [.agg [.int 1, k22 (q8s x y)], .bool true]) := k1
    have hle := j36 1 (q8s x y)
    clear hy
    generalize (q8s x y).getD [] = m at *
    generalize k22 (q8s x y) = O at *
    repeat' (first 
     | (with_reducible refine Fresh.intro fun b hb => ?_) <;> (try simp -dsimp -implicitDefEqProofs [*] at hb)
     | (with_reducible refine Rets.xcall (k1 _ (by simp [*]) (by simp [*])) ?_)
     | (simp -dsimp -implicitDefEqProofs [*]))
    exact RetView.le hle (RetView.drop (st' := st) q5q ⟨rfl, rfl⟩)
  ·have j1 := i1 (by omega)
   clear i1 i2 i3 k1 k3
   rw [j1] at hW
   simp only at hW
   have j2 := Hid.mk j1
   clear j1
   unfold k1n at hW
   unfold z30 at k2
   cases hk : q76 s x.j s.crits.toNat with
   | none =>
    rw [hk] at hW k2
    simp only at hW k2
    have hs : Hid (k1n s x = none) := ⟨by unfold k1n; rw [hk]⟩
    clear hk hW
    repeat' (first 
     | (with_reducible refine Fresh.intro fun b hb => ?_) <;> (try simp -dsimp -implicitDefEqProofs [*] at hb)
     | (with_reducible refine Rets.xcall (k2 _) ?_)
     | (simp -dsimp -implicitDefEqProofs [*]))
    exact Next.intro 2 ⟨by omega, fun _ => j2.out, fun _ => hs.out, by omega⟩ (by omega) (by simp [w2]) q5q
   | some ks =>
    rw [hk] at hW k2
    simp only at hW k2
    cases hm : q8d x.r x.e x.j x.c ks with
    | none =>
     rw [hm] at hW k2
     simp only [k22, Option.isSome_none] at hW k2
     have hs : Hid (k1n s x = none) := ⟨by unfold k1n; rw [hk]; exact hm⟩
     clear hk hW hm
     repeat' (first 
      | (with_reducible refine Fresh.intro fun b hb => ?_) <;> (try simp -dsimp -implicitDefEqProofs [*] at hb)
      | (with_reducible refine Rets.xcall (k2 _) ?_)
      | (simp -dsimp -implicitDefEqProofs [*]))
     exact Next.intro 2 ⟨by omega, fun _ => j2.out, fun _ => hs.out, by omega⟩ (by omega) (by simp [w2]) q5q
    | some m =>
     rw [hm] at hW k2
     simp only [k22, Option.isSome_some] at hW k2
     subst hW
     clear hk hm
     repeat' (first 
      | (with_reducible refine Fresh.intro fun b hb => ?_) <;> (try simp -dsimp -implicitDefEqProofs [*] at hb)
      | (with_reducible refine Rets.xcall (k2 _) ?_)
      | (simp -dsimp -implicitDefEqProofs [*]))
     exact RetView.drop (st' := st) q5q ⟨rfl, rfl⟩
  ·have j1 := i1 (by omega)
   have j2 := i2 (by omega)
   clear i1 i2 i3 k1 k2
   rw [j1] at hW
   simp only at hW
   rw [j2] at hW
   simp only at hW
   have j1 := Hid.mk j1
   have j2 := Hid.mk j2
   rename_i g1 g2
   clear g1 g2
   cases hl : z71 s with
   | false =>
    rw [hl] at k3
    clear hW hl
    repeat' (first 
     | (with_reducible refine Fresh.intro fun b hb => ?_) <;> (try simp -dsimp -implicitDefEqProofs [*] at hb)
     | (with_reducible refine Rets.xcall (k3 _) ?_)
     | (simp -dsimp -implicitDefEqProofs [*]))
    exact Next.intro 3 ⟨by omega, fun _ => j1.out, fun _ => j2.out, fun _ => rfl⟩ (by omega) (by simp [w3]) q5q
   | true =>
    rw [hl] at k3
    rw [if_pos hl] at hW
    subst hW
    clear hl
    repeat' (first 
     | (with_reducible refine Fresh.intro fun b hb => ?_) <;> (try simp -dsimp -implicitDefEqProofs [*] at hb)
     | (with_reducible refine Rets.xcall (k3 _) ?_)
     | (simp -dsimp -implicitDefEqProofs [*]))
    exact RetView.le (k1o 3) (RetView.drop (st' := st) q5q ⟨rfl, rfl⟩)
  ·rw [i1 (by omega)] at hW
   simp only at hW
   rw [i2 (by omega)] at hW
   simp only at hW
   rw [if_neg (by rw [i3 (by omega)]; simp)] at hW
   subst hW
   clear i1 i2 i3 k1 k2 k3
   repeat' (simp -dsimp -implicitDefEqProofs [*])
   exact RetView.le (k1o 0) (RetView.drop (st' := st) q5q ⟨rfl, rfl⟩)
open Go.Pv Go.Pv.Ip
set_option maxRecDepth 100000
set_option maxHeartbeats 8000000
def k2w (s : Ses) : List Opd := if q67 s = true then s.judges.map (q7a s) else []
theorem j37 (x : Opd) : Opd.row [x] = x.enc := by simp [Opd.row]
theorem k5c (s : Ses) (hL : s.Len) (hl : s.keys.length ≤ 1000) (st : q5d) (hG : GL st) : Rets P F.q3j [s.pv] st (.tuple [Opd.lst false (k2w s), .int (if q67 s = true then 0 else 360)]) := by
 have hN := q6k hG.h0 hG.h1
 have h0 := hG.h0
 have h1 := hG.h1
 have c := fun st h0 h1 => k04 s hL st ⟨h0, h1⟩
 unfold k2w
 by_cases hR : q67 s = true
 case neg =>
  rw [if_neg hR] at c
  rw [if_neg hR, if_neg hR]
  clear hL hG
  refine H.q3j.view q5n rfl rfl ?_
  repeat' (first 
   | (with_reducible refine Fresh.intro fun b hb => ?_) <;> (try simp -dsimp -implicitDefEqProofs [*] at hb)
   | (with_reducible refine Rets.xcall (c _ (by simp [*]) (by simp [*])) ?_)
   | (simp -dsimp -implicitDefEqProofs [*]))
  exact .sees (.tuple2l (.nil0 _)) (RetView.drop (st' := st) q5q ⟨rfl, rfl⟩)
 rw [if_pos hR] at c
 rw [if_pos hR, if_pos hR]
 have hRP := (q9t s).1 hR
 have ck := fun j st h0 h1 => z72 s hL hRP hl j st ⟨h0, h1⟩
 have hj : s.judges.length ≤ 24 := hRP.many.2
 clear hR hRP hL hG
 refine H.q3j.view q5n rfl rfl ?_
 repeat' (first 
  | (with_reducible refine Fresh.intro fun b hb => ?_) <;> (try simp -dsimp -implicitDefEqProofs [*] at hb)
  | (with_reducible refine Rets.xcall (c _ (by simp [*]) (by simp [*])) ?_)
  | (simp -dsimp -implicitDefEqProofs [*]))
 revert b; intro q hq
 clear c
 refine q5g (fun y : Nat × Option (Acc Opd) => [(1, .ptr q 0), (2, k1p y.2), (12, q5k false s.judges), (13, .int s.judges.length), (14, .int y.1)]) (fun y => q6o T.apiOpened ((q, .arr T.apiSession s.enc) :: st) y.2) (fun y => y.1 ≤ s.judges.length ∧ accOk Opd.row 2 ((q, .arr T.apiSession s.enc) :: st) y.2 ∧ Hid (q5y y.2 = (s.judges.take y.1).map (q7a s))) (fun y => s.judges.length - y.1) (0, none) ⟨Nat.zero_le _, trivial, ⟨rfl⟩⟩ (by simp) (.refl _) ?_
 rintro ⟨i, o⟩ ⟨hi, ho, hA⟩
 replace hi : i ≤ s.judges.length := hi
 replace ho : accOk Opd.row 2 ((q, .arr T.apiSession s.enc) :: st) o := ho
 replace hA : Hid (q5y o = (s.judges.take i).map (q7a s)) := hA
 simp only
 by_cases hil : i < s.judges.length
 ·have hw := q5h (n := i) (by omega)
  have g1 := q6d s.judges i hil
  have hlen : (q5y o).length ≤ 24 := by rw [hA.out, List.length_map, List.length_take]; omega
  have hst : Hid ((s.judges.take (i + 1)).map (q7a s) = q5y o ++ [q7a s s.judges[i]]) := ⟨by rw [List.take_succ_eq_append_getElem hil, List.map_append, ← hA.out]; rfl⟩
  have c1 := ck s.judges[i]
  have E1 : ∀ h, (q6j s.judges)[i]'h = .int s.judges[i] := fun h => q9n s.judges i h
  obtain ⟨j, hj⟩ : ∃ j, j = s.judges[i] := ⟨_, rfl⟩
  rw [← hj] at g1 hst c1
  simp only [← hj] at E1
  obtain ⟨x, hx⟩ : ∃ x, x = q7a s j := ⟨_, rfl⟩
  rw [← hx] at c1 hst
  have hg1 := k0l (T := T.apiOpened) (b := q) (x := .arr T.apiSession s.enc) ho (by simp [*])
  have hs0 := k0l (T := T.apiOpened) (b := 0) (x := .arr T.t8uint32 Sha.start.row) ho (by simp [*])
  have hs1 := k0l (T := T.apiOpened) (b := 1) (x := q9o) ho (by simp [*])
  clear hA ck hj hx
  repeat' (first 
   | (with_reducible refine Rets.xcall (c1 _ hs0 hs1) ?_)
   | (with_reducible refine Lit.imm ?_)
   | (simp -dsimp -implicitDefEqProofs [*]))
  clear hg1 hs0 hs1 c1
  refine k1c Opd.row_len Opd.row_append o ho [x] (j37 x) rfl (by omega) (by omega) fun o2 ho2 hl2 => ?_
  have k1 : Hid (q5y o2 = (s.judges.take (i + 1)).map (q7a s)) := ⟨by rw [hst.out, hl2]⟩
  clear hl2 hst ho
  repeat' (simp -dsimp -implicitDefEqProofs [*])
  exact Next.intro (i + 1, o2) ⟨by simp only; omega, ho2, k1⟩ (by simp only; omega) (by simp) (.refl _)
 ·obtain rfl : i = s.judges.length := by omega
  clear ck hil
  repeat' (simp -dsimp -implicitDefEqProofs [*])
  refine RetView.accP2 rfl ho ?_
  rw [hA.out, List.take_length]
  exact RetView.drop (st' := st) q5q ⟨rfl, rfl⟩
open Go.Pv
set_option maxRecDepth 100000
set_option maxHeartbeats 16000000
def ses2 : Ses := z9a 0 0 1 [3, 7] 2 5
theorem q9u : q67 ses2 = true := by decide +kernel
theorem j06 (st : q5d) (hG : GL st) : Rets P F.q4d [] st (.tuple [ses2.pv, .int 0]) := by
 have hN := q6k hG.h0 hG.h1
 have h0 := hG.h0
 have h1 := hG.h1
 have c : ∀ st, q5w st 0 = some (.arr T.t8uint32 Sha.start.row) → q5w st 1 = some q9o → Rets P F.q39 [.int 0, .int 0, .int 1, .list true [.int 3, .int 7] 2, .int 2, .int 5] st (.tuple [ses2.pv, .int 0]) := fun st h0 h1 => by
  have := z5o 0 0 1 [3, 7] 2 5 (by simp) (by omega) (by omega) st ⟨h0, h1⟩
  have e : q67 (z9a 0 0 1 [3, 7] 2 5) = true := q9u
  rw [e, if_pos rfl, if_pos rfl] at this
  exact Rets.args (qs := [.int 0, .int 0, .int 1, q5k false [3, 7], .int 2, .int 5]) ⟨.refl _, .refl _, .refl _, .loose, .refl _, .refl _, trivial⟩ this
 clear hG
 refine H.q4d.view q5n rfl rfl ?_
 repeat' (first 
  | (with_reducible refine Fresh.intro fun b hb => ?_) <;> (try simp -dsimp -implicitDefEqProofs [*] at hb)
  | (with_reducible refine Rets.xcall (c _ (by simp [*]) (by simp [*])) ?_)
  | (with_reducible refine Lit.imm ?_)
  | (simp -dsimp -implicitDefEqProofs [*]))
 exact RetView.drop (st' := st) q5q ⟨rfl, rfl⟩
def z73 : Dig := ⟨1#8 :: List.replicate 31 0#8, rfl⟩
def card9 : Card := ⟨0, 0, 3, [1009], ⟨j42 0 0 3 [9] [1000] z73.1, rfl⟩⟩
theorem z33 (st : q5d) (hG : GL st) : Rets P F.q3p [.int 3, .int 9, .int 1000] st (.tuple [card9.pv, .int 0]) := by
 have hN := q6k hG.h0 hG.h1
 have h0 := hG.h0
 have h1 := hG.h1
 have c : ∀ st, q5w st 0 = some (.arr T.t8uint32 Sha.start.row) → q5w st 1 = some q9o → Rets P F.q4w [.int 0, .int 0, .int 3, q5k true [9], q5k true [1000], .agg (q5e z73.1)] st (.tuple [card9.pv, .int 0]) := fun st h0 h1 => j6j true true z73.1 z73.2 (by decide +kernel) st h0 h1
 have e1 : q5k true [9] = .list true [.int 9] 1 := rfl
 have e2 : q5k true [1000] = .list true [.int 1000] 1 := rfl
 have e3 : q5e z73.1 = .val (.int .u8 1) :: List.replicate 31 (.val (.int .u8 0)) := rfl
 rw [e1, e2, e3] at c
 simp only [List.replicate] at c
 clear hG e1 e2 e3
 refine H.q3p.view q5n rfl rfl ?_
 repeat' (first 
  | (with_reducible refine Fresh.intro fun b hb => ?_) <;> (try simp -dsimp -implicitDefEqProofs [*] at hb)
  | (with_reducible refine Rets.xcall (c _ (by simp [*]) (by simp [*])) ?_)
  | (with_reducible refine Lit.imm ?_)
  | (simp -dsimp -implicitDefEqProofs [*]))
 exact RetView.drop (st' := st) q5q ⟨rfl, rfl⟩
open Go.Pv Go.Pv.Sha
set_option maxRecDepth 100000
set_option maxHeartbeats 4000000
abbrev zz : List PV := [.val (.int .u8 0), .val (.int .u8 0), .val (.int .u8 0), .val (.int .u8 0), .val (.int .u8 0), .val (.int .u8 0), .val (.int .u8 0), .val (.int .u8 0), .val (.int .u8 0), .val (.int .u8 0), .val (.int .u8 0), .val (.int .u8 0), .val (.int .u8 0), .val (.int .u8 0), .val (.int .u8 0), .val (.int .u8 0), .val (.int .u8 0), .val (.int .u8 0), .val (.int .u8 0), .val (.int .u8 0), .val (.int .u8 0), .val (.int .u8 0), .val (.int .u8 0), .val (.int .u8 0), .val (.int .u8 0), .val (.int .u8 0), .val (.int .u8 0), .val (.int .u8 0), .val (.int .u8 0), .val (.int .u8 0), .val (.int .u8 0), .val (.int .u8 0)]
end Go.Proofs.YtnooplpbpfiapaaGreatDoor
