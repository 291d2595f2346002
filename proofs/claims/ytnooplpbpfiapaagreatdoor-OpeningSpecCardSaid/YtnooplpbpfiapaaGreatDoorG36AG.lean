/- The marks of a card, by shares; what is known; by the program. -/
import Derived.Test.YtnooplpbpfiapaaGreatDoorG36BF
import Derived.Test.YtnooplpbpfiapaaGreatDoorG36AF
import Derived.Test.YtnooplpbpfiapaaGreatDoorG36BR
import Derived.Test.YtnooplpbpfiapaaGreatDoorS36X
namespace Go.Proofs.YtnooplpbpfiapaaGreatDoor
open Go.Pv Go.Pv.Ip
set_option maxRecDepth 100000
set_option maxHeartbeats 8000000
def q89 (s : Ses) (j : Int) : Nat → Option (List Int)
 | 0 => some []
 | k + 1 => match q89 s j k with
  | none => none
  | some l => match y0s j k s.keys s.need.toNat with
   | none => none
   | some v => some (l ++ [v])
theorem k7m {s : Ses} {j : Int} : ∀ {k : Nat} {l : List Int}, q89 s j k = some l → l.length = k
 | 0, l, h => by cases h; rfl
 | k + 1, l, h => by
  rw [q89] at h
  cases h1 : q89 s j k with
  | none => rw [h1] at h; cases h
  | some m =>
   rw [h1] at h
   have := k7m h1
   cases h2 : y0s j k s.keys s.need.toNat with
   | none => rw [h2] at h; cases h
   | some v =>
    rw [h2] at h
    cases h
    simp [this]
theorem z0i {s : Ses} {j : Int} {k : Nat} (h : q89 s j k = none) : ∀ n, q89 s j (k + n) = none
 | 0 => h
 | n + 1 => by
  show q89 s j (k + n + 1) = none
  rw [q89, z0i h n]
def k5f (s : Ses) (x : Card) : Option (List Int) := match q89 s x.j s.crits.toNat with
 | none => none
 | some ks => k1c x.r x.e x.j x.c ks
def z39 (s : Ses) (x : Card) : PV := match q89 s x.j s.crits.toNat with
 | none => .tuple [.agg [.int 0, .nil], .bool false]
 | some ks => .tuple [.agg [.int 2, k6n (k1c x.r x.e x.j x.c ks)], .bool (k1c x.r x.e x.j x.c ks).isSome]
theorem k6i {α : Type} {row : List α → List PV} {k : Nat} {T : TypeId} {st : q5d} {o : Option (Acc α)} (ho : accOk row k st o) {b : Nat} {x : PObj} (h : q5x st b = some x) : q5x (q67 T st o) b = some x := by
 cases o with
 | none => exact h
 | some a => exact (StLe.fresh ho.2) _ _ h
theorem z5w (s : Ses) (hR : RightP s) (hl : s.keys.length ≤ 1000) (x : Card) (hx : x.c.length ≤ 100000) (st : q5d) : Rets P F.q18 [s.pv, x.pv] st (z39 s x) := by
 obtain ⟨n, hn⟩ : ∃ n : Nat, s.need = n := ⟨s.need.toNat, by have := hR.need; omega⟩
 obtain ⟨m, hm⟩ : ∃ m : Nat, s.crits = m := ⟨s.crits.toNat, by have := hR.crits; omega⟩
 have hm64 : m ≤ 64 := by have := hR.crits; omega
 have hn24 : n ≤ 24 := by have := hR.need; have := hR.many; omega
 have ck := fun c : Nat => j6n s x.j c n hn hn24 hl hR.holder (hR.good x.j c n)
 have hst : Hid (∀ k, q89 s x.j (k + 1) = match q89 s x.j k with
  | none => none
  | some l => match y0s x.j k s.keys n with
   | none => none
   | some v => some (l ++ [v])) := ⟨fun k => by rw [q89, hn]; rfl⟩
 obtain ⟨W, hW⟩ : ∃ W, W = z39 s x := ⟨_, rfl⟩
 rw [← hW]
 unfold z39 at hW
 rw [hm, Int.toNat_natCast] at hW
 replace hW := Hid.mk hW
 refine H.q18.view q5m rfl rfl ?_
 clear hR hl
 repeat' (first 
  | (with_reducible refine Fresh.intro fun b hb => ?_) <;> (try simp -dsimp -implicitDefEqProofs [*] at hb)
  | (simp -dsimp -implicitDefEqProofs [*]))
 revert b
 revert b
 revert b
 intro b1 hb1 b2 hb2 b3 hb3
 refine z8t (fun y : Nat × Option (Acc Int) => [(2, .ptr b1 0), (3, .ptr b2 0), (4, .ptr b3 0), (6, k1k y.2), (14, .int m), (15, .int y.1)]) (fun y => q67 T.int ((b3, .arr T.apiOpened [.int 0, .nil]) :: (b2, .arr T.apiSealed x.enc) :: (b1, k6h s) :: st) y.2) (fun y => y.1 ≤ m ∧ accOk q6x 1 ((b3, .arr T.apiOpened [.int 0, .nil]) :: (b2, .arr T.apiSealed x.enc) :: (b1, k6h s) :: st) y.2 ∧ q89 s x.j y.1 = some (q59 y.2)) (fun y => m - y.1) (fun y => y.1 = m) (fun y : Nat × Option (Acc Int) => [(2, .ptr b1 0), (3, .ptr b2 0), (4, .ptr b3 0), (6, q5k false (q59 y.2)), (14, .int m), (15, .int y.1)]) (fun _ => (b3, .arr T.apiOpened [.int 0, .nil]) :: (b2, .arr T.apiSealed x.enc) :: (b1, k6h s) :: st)
  ?_ (0, none) ⟨Nat.zero_le _, trivial, rfl⟩ (by simp [hm]) (.refl _) ?_ ?_
 ·intro y h _
  exact View.acc rfl h.2.1 (.refl _) (by simp)
 ·rintro ⟨i, o⟩ ⟨hi, ho, hA⟩ hi2
  replace hi2 : i = m := hi2
  replace hA : q89 s x.j i = some (q59 o) := hA
  subst hi2
  have hkl := k7m hA
  have e := hW.out
  rw [hA] at e
  simp only at e
  simp only
  obtain ⟨ks, hks⟩ : ∃ ks, ks = q59 o := ⟨_, rfl⟩
  rw [← hks] at e hkl ⊢
  have cs := fun st => j0g false false x.r x.e x.j x.c ks hx (by omega) x.d.1 x.d.2 st
  have cs2 : ∀ st, Rets P F.q4x [x.pv, q5k false ks] st (.tuple [k6n (k1c x.r x.e x.j x.c ks), .int (y49 (k1c x.r x.e x.j x.c ks))]) := cs
  generalize k1c x.r x.e x.j x.c ks = O at *
  clear hW hA ho hks cs ck hst hi
  cases O with
  | none =>
   subst e
   simp only [k6n, y49, Option.isSome_none] at cs2 ⊢
   repeat' (first 
    | (with_reducible refine Rets.xcall (cs2 _) ?_)
    | (simp -dsimp -implicitDefEqProofs [*]))
   exact RetView.drop (st' := st) q5q ⟨rfl, rfl⟩
  | some v =>
   subst e
   simp only [k6n, y49, Option.isSome_some] at cs2 ⊢
   repeat' (first 
    | (with_reducible refine Rets.xcall (cs2 _) ?_)
    | (simp -dsimp -implicitDefEqProofs [*]))
   exact RetView.drop (st' := st) q5q ⟨rfl, rfl⟩
 ·rintro ⟨i, o⟩ ⟨hi, ho, hA⟩ hi2
  replace hi : i ≤ m := hi
  replace hi2 : ¬ i = m := hi2
  replace hA : q89 s x.j i = some (q59 o) := hA
  replace ho : accOk q6x 1 ((b3, .arr T.apiOpened [.int 0, .nil]) :: (b2, .arr T.apiSealed x.enc) :: (b1, k6h s) :: st) o := ho
  have hw := q5h (n := i) (by omega)
  have hil : i < m := by omega
  have hkl := k7m hA
  have e := hst.out i
  rw [hA] at e
  simp only at e
  have c1 := ck i
  simp only
  clear hst ck hA hi2
  cases hv : y0s x.j i s.keys n with
  | none =>
   rw [hv] at e c1
   simp only at e
   have e2 := z0i e (m - (i + 1))
   rw [show i + 1 + (m - (i + 1)) = m by omega] at e2
   have e3 := hW.out
   rw [e2] at e3
   simp only at e3
   subst e3
   simp only [y8o] at c1
   clear hW e e2 hv
   cases o with
   | none =>
    simp only [z46]
    repeat' (first 
     | (with_reducible refine Rets.xcall (c1 _) ?_)
     | (simp -dsimp -implicitDefEqProofs [*]))
    exact RetView.drop (st' := st) q5q ⟨rfl, rfl⟩
   | some a =>
    obtain ⟨ha, hsn⟩ := ho
    simp only [k0t] at hsn
    simp only [q6z]
    clear ha
    repeat' (first 
     | (with_reducible refine Rets.xcall (c1 _) ?_)
     | (simp -dsimp -implicitDefEqProofs [*]))
    exact RetView.drop (st' := st) q5q ⟨rfl, rfl⟩
  | some v =>
   rw [hv] at e c1
   simp only at e
   simp only [y8o] at c1
   have e := Hid.mk e
   have hg1 := k6i (T := T.int) (b := b1) (x := k6h s) ho (by simp [*])
   have hg2 := k6i (T := T.int) (b := b2) (x := .arr T.apiSealed x.enc) ho (by simp [*])
   clear hW hv
   repeat' (first 
    | (with_reducible refine Rets.xcall (c1 _) ?_)
    | (with_reducible refine Lit.imm ?_)
    | (simp -dsimp -implicitDefEqProofs [*]))
   clear hg1 hg2
   refine k07 k63 k2f o ho [v] (by simp [q6x]) rfl (by omega) (by omega) fun o2 ho2 hl2 => ?_
   have k1 : Hid (q89 s x.j (i + 1) = some (q59 o2)) := ⟨by rw [e.out, hl2]⟩
   clear hl2 e ho
   repeat' (simp -dsimp -implicitDefEqProofs [*])
   exact NextF.intro (fun y h _ => View.acc rfl h.2.1 (.refl _) (by simp)) (i + 1, o2) ⟨by simp only; omega, ho2, k1.out⟩ (by simp only; omega) (by simp) (.refl _)
def j35 (s : Ses) : Bool := decide (s.deadline + 1440 ≤ s.time)
theorem j00 (s : Ses) (hd : 0 ≤ s.deadline ∧ s.deadline < 2097152) (x : Card) (st : q5d) : Rets P F.q2m [s.pv, x.pv] st (.tuple [.agg [.int 3, .nil], .bool (j35 s)]) := by
 have hw : IntKind.i64.wrap (s.deadline + 1440) = s.deadline + 1440 := q5n (by omega) (by omega)
 unfold j35
 refine H.q2m.pure q5m rfl rfl ?_
 repeat' (first 
  | (with_reducible refine Fresh.intro fun b hb => ?_) <;> (try simp -dsimp -implicitDefEqProofs [*] at hb)
  | (simp -dsimp -implicitDefEqProofs [*]))
 refine DrawLate.intro [b] ?_
 repeat' (simp -dsimp -implicitDefEqProofs [*])
def k0a (s : Ses) (j : Int) : Opd :=
 if q78 s = true then (match q8p s j with
  | none => ⟨3, []⟩
  | some x => match k1j s j with
   | some y => ⟨1, (q94 x y).getD []⟩
   | none => match k5f s x with
    | some m => ⟨2, m⟩
    | none => if j35 s = true then ⟨3, []⟩ else ⟨0, []⟩)
 else ⟨0, []⟩
theorem z0j (h : Int) : PLe (.agg [.int h, .nil]) (Opd.pv ⟨h, []⟩) := PLe.agg2 (.refl _) .nil1
theorem y0z (h : Int) (o : Option (List Int)) : PLe (.agg [.int h, k6n o]) (Opd.pv ⟨h, o.getD []⟩) := by
 cases o with
 | none => exact z0j h
 | some m => exact .refl _
theorem j6u {s : Ses} {j : Int} {x : Card} (h : q8p s j = some x) : x.j = j ∧ x ∈ s.sealed :=
 ⟨by have := List.find?_some h; simpa using this, List.mem_of_find?_eq_some h⟩
theorem z70 (s : Ses) (hL : s.Len) (hR : RightP s) (hl : s.keys.length ≤ 1000) (j : Int) (st : q5d) (hG : GL st) : Rets P F.q1u [s.pv, .int j] st (k0a s j).pv := by
 have hN := q6l hG.h0 hG.h1
 have h0 := hG.h0
 have h1 := hG.h1
 have co := q8k s
 obtain ⟨W, hW⟩ : ∃ W, W = k0a s j := ⟨_, rfl⟩
 rw [← hW]
 unfold k0a at hW
 by_cases hO : q78 s = true
 case neg =>
  rw [if_neg hO] at hW
  rw [Bool.eq_false_iff.2 hO] at co
  clear hL hR hG
  subst hW
  refine H.q1u.view q5m rfl rfl ?_
  repeat' (first 
   | (with_reducible refine Fresh.intro fun b hb => ?_) <;> (try simp -dsimp -implicitDefEqProofs [*] at hb)
   | (with_reducible refine Rets.xcall (co _) ?_)
   | (simp -dsimp -implicitDefEqProofs [*]))
  exact RetView.le (z0j 0) (RetView.drop (st' := st) q5q ⟨rfl, rfl⟩)
 rw [if_pos hO] at hW
 rw [hO] at co
 have cc := z2e s hL.sealed hR.sealed j
 cases hx : q8p s j with
 | none =>
  rw [hx] at hW cc
  simp only at hW
  simp only [j3z, Option.isSome_none] at cc
  clear hL hR hG
  subst hW
  refine H.q1u.view q5m rfl rfl ?_
  repeat' (first 
   | (with_reducible refine Fresh.intro fun b hb => ?_) <;> (try simp -dsimp -implicitDefEqProofs [*] at hb)
   | (with_reducible refine Rets.xcall (co _) ?_)
   | (with_reducible refine Rets.xcall (cc _) ?_)
   | (simp -dsimp -implicitDefEqProofs [*]))
  exact RetView.le (z0j 3) (RetView.drop (st' := st) q5q ⟨rfl, rfl⟩)
 | some x =>
  obtain ⟨hxj, hxm⟩ := j6u hx
  have hxc := hL.cards x hxm
  rw [hx] at hW cc
  simp only at hW
  simp only [j3z, Option.isSome_some] at cc
  have k1 := fun st h0 h1 => z7z s hL hR.shown x hxc st ⟨h0, h1⟩
  have k2 := z5w s hR hl x hxc
  have k3 := j00 s hR.deadline x
  rw [hxj] at k1
  clear hL hR hG hxj hxm hxc hx
  refine H.q1u.view q5m rfl rfl ?_
  repeat' (first 
   | (with_reducible refine Fresh.intro fun b hb => ?_) <;> (try simp -dsimp -implicitDefEqProofs [*] at hb)
   | (with_reducible refine Rets.xcall (co _) ?_)
   | (with_reducible refine Rets.xcall (cc _) ?_)
   | (with_reducible refine Lit.imm ?_)
   | (simp -dsimp -implicitDefEqProofs [*]))
  clear co cc
  revert b
  revert b
  revert b
  intro b1 hb1 b2 hb2 b3 hb3
  have w1 : IntKind.i64.wrap 1 = 1 := by decide
  have w2 : IntKind.i64.wrap 2 = 2 := by decide
  have w3 : IntKind.i64.wrap 3 = 3 := by decide
  refine q5g (fun n : Nat => [(2, .ptr b1 0), (4, .ptr b2 0), (5, .ptr b3 0), (30, .list true [.func (.func F.q1b) [s.pv] [], .func (.func F.q18) [s.pv] [], .func (.func F.q2m) [s.pv] []] 3), (31, .int 3), (32, .int n)]) (fun _ => (b3, .arr T.apiSealed x.enc) :: (b2, .arr T.apiOpened [.int 0, .nil]) :: (b1, k6h s) :: st) (fun n => n ≤ 3 ∧ (0 < n → k1j s j = none) ∧ (1 < n → k5f s x = none) ∧ (2 < n → j35 s = false)) (fun n => 3 - n) 0 ⟨Nat.zero_le _, by omega, by omega, by omega⟩ (by simp) (.refl _) ?_
  rintro n ⟨hn, i1, i2, i3⟩
  rcases (show n = 0 ∨ n = 1 ∨ n = 2 ∨ n = 3 by omega) with rfl | rfl | rfl | rfl
  ·clear i1 i2 i3 k2 k3
   cases hy : k1j s j with
   | none =>
    rw [hy] at k1
    replace k1 : ∀ st, q5x st 0 = some (.arr T.t8uint32 Sha.start.row) → q5x st 1 = some q9l → Rets P F.q1b [s.pv, x.pv] st (.tuple [.agg [.int 0, .nil], .bool false]) := k1
    clear hW hy
    repeat' (first 
     | (with_reducible refine Fresh.intro fun b hb => ?_) <;> (try simp -dsimp -implicitDefEqProofs [*] at hb)
     | (with_reducible refine Rets.xcall (k1 _ (by simp [*]) (by simp [*])) ?_)
     | (simp -dsimp -implicitDefEqProofs [*]))
    exact Next.intro 1 ⟨by omega, fun _ => rfl, by omega, by omega⟩ (by omega) (by simp [w1]) q5q
   | some y =>
    rw [hy] at k1 hW
    simp only at hW
    subst hW
    replace k1 : ∀ st, q5x st 0 = some (.arr T.t8uint32 Sha.start.row) → q5x st 1 = some q9l → Rets P F.q1b [s.pv, x.pv] st (.tuple [.agg [.int 1, k6n (q94 x y)], .bool true]) := k1
    have hle := y0z 1 (q94 x y)
    clear hy
    generalize (q94 x y).getD [] = m at *
    generalize k6n (q94 x y) = O at *
    repeat' (first 
     | (with_reducible refine Fresh.intro fun b hb => ?_) <;> (try simp -dsimp -implicitDefEqProofs [*] at hb)
     | (with_reducible refine Rets.xcall (k1 _ (by simp [*]) (by simp [*])) ?_)
     | (simp -dsimp -implicitDefEqProofs [*]))
    exact RetView.le hle (RetView.drop (st' := st) q5q ⟨rfl, rfl⟩)
  ·have j1 := i1 (by omega)
   clear i1 i2 i3 k1 k3
   rw [j1] at hW
   simp only at hW
   have j2 := Hid.mk j1
   clear j1
   unfold k5f at hW
   unfold z39 at k2
   cases hk : q89 s x.j s.crits.toNat with
   | none =>
    rw [hk] at hW k2
    simp only at hW k2
    have hs : Hid (k5f s x = none) := ⟨by unfold k5f; rw [hk]⟩
    clear hk hW
    repeat' (first 
     | (with_reducible refine Fresh.intro fun b hb => ?_) <;> (try simp -dsimp -implicitDefEqProofs [*] at hb)
     | (with_reducible refine Rets.xcall (k2 _) ?_)
     | (simp -dsimp -implicitDefEqProofs [*]))
    exact Next.intro 2 ⟨by omega, fun _ => j2.out, fun _ => hs.out, by omega⟩ (by omega) (by simp [w2]) q5q
   | some ks =>
    rw [hk] at hW k2
    simp only at hW k2
    cases hm : k1c x.r x.e x.j x.c ks with
    | none =>
     rw [hm] at hW k2
     simp only [k6n, Option.isSome_none] at hW k2
     have hs : Hid (k5f s x = none) := ⟨by unfold k5f; rw [hk]; exact hm⟩
     clear hk hW hm
     repeat' (first 
      | (with_reducible refine Fresh.intro fun b hb => ?_) <;> (try simp -dsimp -implicitDefEqProofs [*] at hb)
      | (with_reducible refine Rets.xcall (k2 _) ?_)
      | (simp -dsimp -implicitDefEqProofs [*]))
     exact Next.intro 2 ⟨by omega, fun _ => j2.out, fun _ => hs.out, by omega⟩ (by omega) (by simp [w2]) q5q
    | some m =>
     rw [hm] at hW k2
     simp only [k6n, Option.isSome_some] at hW k2
     subst hW
     clear hk hm
     repeat' (first 
      | (with_reducible refine Fresh.intro fun b hb => ?_) <;> (try simp -dsimp -implicitDefEqProofs [*] at hb)
      | (with_reducible refine Rets.xcall (k2 _) ?_)
      | (simp -dsimp -implicitDefEqProofs [*]))
     exact RetView.drop (st' := st) q5q ⟨rfl, rfl⟩
  ·have j1 := i1 (by omega)
   have j2 := i2 (by omega)
   clear i1 i2 i3 k1 k2
   rw [j1] at hW
   simp only at hW
   rw [j2] at hW
   simp only at hW
   have j1 := Hid.mk j1
   have j2 := Hid.mk j2
   rename_i g1 g2
   clear g1 g2
   cases hl : j35 s with
   | false =>
    rw [hl] at k3
    clear hW hl
    repeat' (first 
     | (with_reducible refine Fresh.intro fun b hb => ?_) <;> (try simp -dsimp -implicitDefEqProofs [*] at hb)
     | (with_reducible refine Rets.xcall (k3 _) ?_)
     | (simp -dsimp -implicitDefEqProofs [*]))
    exact Next.intro 3 ⟨by omega, fun _ => j1.out, fun _ => j2.out, fun _ => rfl⟩ (by omega) (by simp [w3]) q5q
   | true =>
    rw [hl] at k3
    rw [if_pos hl] at hW
    subst hW
    clear hl
    repeat' (first 
     | (with_reducible refine Fresh.intro fun b hb => ?_) <;> (try simp -dsimp -implicitDefEqProofs [*] at hb)
     | (with_reducible refine Rets.xcall (k3 _) ?_)
     | (simp -dsimp -implicitDefEqProofs [*]))
    exact RetView.le (z0j 3) (RetView.drop (st' := st) q5q ⟨rfl, rfl⟩)
  ·rw [i1 (by omega)] at hW
   simp only at hW
   rw [i2 (by omega)] at hW
   simp only at hW
   rw [if_neg (by rw [i3 (by omega)]; simp)] at hW
   subst hW
   clear i1 i2 i3 k1 k2 k3
   repeat' (simp -dsimp -implicitDefEqProofs [*])
   exact RetView.le (z0j 0) (RetView.drop (st' := st) q5q ⟨rfl, rfl⟩)
open Go.Pv Go.Pv.Ip
set_option maxRecDepth 100000
set_option maxHeartbeats 8000000
def z5x (s : Ses) : List Opd := if q6g s = true then s.judges.map (k0a s) else []
theorem y00 (x : Opd) : Opd.row [x] = x.enc := by simp [Opd.row]
theorem z0k (s : Ses) (hL : s.Len) (hl : s.keys.length ≤ 1000) (st : q5d) (hG : GL st) : Rets P F.q31 [s.pv] st (.tuple [Opd.lst false (z5x s), .int (if q6g s = true then 0 else 360)]) := by
 have hN := q6l hG.h0 hG.h1
 have h0 := hG.h0
 have h1 := hG.h1
 have c := fun st h0 h1 => q9p s hL st ⟨h0, h1⟩
 unfold z5x
 by_cases hR : q6g s = true
 case neg =>
  rw [if_neg hR] at c
  rw [if_neg hR, if_neg hR]
  clear hL hG
  refine H.q31.view q5m rfl rfl ?_
  repeat' (first 
   | (with_reducible refine Fresh.intro fun b hb => ?_) <;> (try simp -dsimp -implicitDefEqProofs [*] at hb)
   | (with_reducible refine Rets.xcall (c _ (by simp [*]) (by simp [*])) ?_)
   | (simp -dsimp -implicitDefEqProofs [*]))
  exact .sees (.tuple2l (.nil0 _)) (RetView.drop (st' := st) q5q ⟨rfl, rfl⟩)
 rw [if_pos hR] at c
 rw [if_pos hR, if_pos hR]
 have hRP := (k0h s).1 hR
 have ck := fun j st h0 h1 => z70 s hL hRP hl j st ⟨h0, h1⟩
 have hj : s.judges.length ≤ 24 := hRP.many.2
 clear hR hRP hL hG
 refine H.q31.view q5m rfl rfl ?_
 repeat' (first 
  | (with_reducible refine Fresh.intro fun b hb => ?_) <;> (try simp -dsimp -implicitDefEqProofs [*] at hb)
  | (with_reducible refine Rets.xcall (c _ (by simp [*]) (by simp [*])) ?_)
  | (simp -dsimp -implicitDefEqProofs [*]))
 revert b; intro q hq
 clear c
 refine q5g (fun y : Nat × Option (Acc Opd) => [(1, .ptr q 0), (2, k1k y.2), (12, q5k false s.judges), (13, .int s.judges.length), (14, .int y.1)]) (fun y => q67 T.apiOpened ((q, .arr T.apiSession s.enc) :: st) y.2) (fun y => y.1 ≤ s.judges.length ∧ accOk Opd.row 2 ((q, .arr T.apiSession s.enc) :: st) y.2 ∧ Hid (q59 y.2 = (s.judges.take y.1).map (k0a s))) (fun y => s.judges.length - y.1) (0, none) ⟨Nat.zero_le _, trivial, ⟨rfl⟩⟩ (by simp) (.refl _) ?_
 rintro ⟨i, o⟩ ⟨hi, ho, hA⟩
 replace hi : i ≤ s.judges.length := hi
 replace ho : accOk Opd.row 2 ((q, .arr T.apiSession s.enc) :: st) o := ho
 replace hA : Hid (q59 o = (s.judges.take i).map (k0a s)) := hA
 simp only
 by_cases hil : i < s.judges.length
 ·have hw := q5h (n := i) (by omega)
  have g1 := q6f s.judges i hil
  have hlen : (q59 o).length ≤ 24 := by rw [hA.out, List.length_map, List.length_take]; omega
  have hst : Hid ((s.judges.take (i + 1)).map (k0a s) = q59 o ++ [k0a s s.judges[i]]) := ⟨by rw [List.take_succ_eq_append_getElem hil, List.map_append, ← hA.out]; rfl⟩
  have c1 := ck s.judges[i]
  have E1 : ∀ h, (q6x s.judges)[i]'h = .int s.judges[i] := fun h => k0v s.judges i h
  obtain ⟨j, hj⟩ : ∃ j, j = s.judges[i] := ⟨_, rfl⟩
  rw [← hj] at g1 hst c1
  simp only [← hj] at E1
  obtain ⟨x, hx⟩ : ∃ x, x = k0a s j := ⟨_, rfl⟩
  rw [← hx] at c1 hst
  have hg1 := k6i (T := T.apiOpened) (b := q) (x := .arr T.apiSession s.enc) ho (by simp [*])
  have hs0 := k6i (T := T.apiOpened) (b := 0) (x := .arr T.t8uint32 Sha.start.row) ho (by simp [*])
  have hs1 := k6i (T := T.apiOpened) (b := 1) (x := q9l) ho (by simp [*])
  clear hA ck hj hx
  repeat' (first 
   | (with_reducible refine Rets.xcall (c1 _ hs0 hs1) ?_)
   | (with_reducible refine Lit.imm ?_)
   | (simp -dsimp -implicitDefEqProofs [*]))
  clear hg1 hs0 hs1 c1
  refine k07 Opd.row_len Opd.row_append o ho [x] (y00 x) rfl (by omega) (by omega) fun o2 ho2 hl2 => ?_
  have k1 : Hid (q59 o2 = (s.judges.take (i + 1)).map (k0a s)) := ⟨by rw [hst.out, hl2]⟩
  clear hl2 hst ho
  repeat' (simp -dsimp -implicitDefEqProofs [*])
  exact Next.intro (i + 1, o2) ⟨by simp only; omega, ho2, k1⟩ (by simp only; omega) (by simp) (.refl _)
 ·obtain rfl : i = s.judges.length := by omega
  clear ck hil
  repeat' (simp -dsimp -implicitDefEqProofs [*])
  refine RetView.accP2 rfl ho ?_
  rw [hA.out, List.take_length]
  exact RetView.drop (st' := st) q5q ⟨rfl, rfl⟩
open Go.Pv
set_option maxRecDepth 100000
set_option maxHeartbeats 16000000
def ses2 : Ses := k20 0 0 1 [3, 7] 2 5
theorem q9q : q6g ses2 = true := by decide +kernel
theorem j01 (st : q5d) (hG : GL st) : Rets P F.q4d [] st (.tuple [ses2.pv, .int 0]) := by
 have hN := q6l hG.h0 hG.h1
 have h0 := hG.h0
 have h1 := hG.h1
 have c : ∀ st, q5x st 0 = some (.arr T.t8uint32 Sha.start.row) → q5x st 1 = some q9l → Rets P F.q3t [.int 0, .int 0, .int 1, .list true [.int 3, .int 7] 2, .int 2, .int 5] st (.tuple [ses2.pv, .int 0]) := fun st h0 h1 => by
  have := z0d 0 0 1 [3, 7] 2 5 (by simp) (by omega) (by omega) st ⟨h0, h1⟩
  have e : q6g (k20 0 0 1 [3, 7] 2 5) = true := q9q
  rw [e, if_pos rfl, if_pos rfl] at this
  exact Rets.args (qs := [.int 0, .int 0, .int 1, q5k false [3, 7], .int 2, .int 5]) ⟨.refl _, .refl _, .refl _, .loose, .refl _, .refl _, trivial⟩ this
 clear hG
 refine H.q4d.view q5m rfl rfl ?_
 repeat' (first 
  | (with_reducible refine Fresh.intro fun b hb => ?_) <;> (try simp -dsimp -implicitDefEqProofs [*] at hb)
  | (with_reducible refine Rets.xcall (c _ (by simp [*]) (by simp [*])) ?_)
  | (with_reducible refine Lit.imm ?_)
  | (simp -dsimp -implicitDefEqProofs [*]))
 exact RetView.drop (st' := st) q5q ⟨rfl, rfl⟩
def z71 : Dig := ⟨1#8 :: List.replicate 31 0#8, rfl⟩
def card9 : Card := ⟨0, 0, 3, [1009], ⟨j4v 0 0 3 [9] [1000] z71.1, rfl⟩⟩
theorem z4a (st : q5d) (hG : GL st) : Rets P F.q3o [.int 3, .int 9, .int 1000] st (.tuple [card9.pv, .int 0]) := by
 have hN := q6l hG.h0 hG.h1
 have h0 := hG.h0
 have h1 := hG.h1
 have c : ∀ st, q5x st 0 = some (.arr T.t8uint32 Sha.start.row) → q5x st 1 = some q9l → Rets P F.q4w [.int 0, .int 0, .int 3, q5k true [9], q5k true [1000], .agg (q5e z71.1)] st (.tuple [card9.pv, .int 0]) := fun st h0 h1 => j59 true true z71.1 z71.2 (by decide +kernel) st h0 h1
 have e1 : q5k true [9] = .list true [.int 9] 1 := rfl
 have e2 : q5k true [1000] = .list true [.int 1000] 1 := rfl
 have e3 : q5e z71.1 = .val (.int .u8 1) :: List.replicate 31 (.val (.int .u8 0)) := rfl
 rw [e1, e2, e3] at c
 simp only [List.replicate] at c
 clear hG e1 e2 e3
 refine H.q3o.view q5m rfl rfl ?_
 repeat' (first 
  | (with_reducible refine Fresh.intro fun b hb => ?_) <;> (try simp -dsimp -implicitDefEqProofs [*] at hb)
  | (with_reducible refine Rets.xcall (c _ (by simp [*]) (by simp [*])) ?_)
  | (with_reducible refine Lit.imm ?_)
  | (simp -dsimp -implicitDefEqProofs [*]))
 exact RetView.drop (st' := st) q5q ⟨rfl, rfl⟩
open Go.Pv Go.Pv.Sha
set_option maxRecDepth 100000
set_option maxHeartbeats 4000000
abbrev zz : List PV := [.val (.int .u8 0), .val (.int .u8 0), .val (.int .u8 0), .val (.int .u8 0), .val (.int .u8 0), .val (.int .u8 0), .val (.int .u8 0), .val (.int .u8 0), .val (.int .u8 0), .val (.int .u8 0), .val (.int .u8 0), .val (.int .u8 0), .val (.int .u8 0), .val (.int .u8 0), .val (.int .u8 0), .val (.int .u8 0), .val (.int .u8 0), .val (.int .u8 0), .val (.int .u8 0), .val (.int .u8 0), .val (.int .u8 0), .val (.int .u8 0), .val (.int .u8 0), .val (.int .u8 0), .val (.int .u8 0), .val (.int .u8 0), .val (.int .u8 0), .val (.int .u8 0), .val (.int .u8 0), .val (.int .u8 0), .val (.int .u8 0), .val (.int .u8 0)]
end Go.Proofs.YtnooplpbpfiapaaGreatDoor
