/- What is known of a card, by the program. -/
import Derived.Test.YtnooplpbpfiapaaGreatDoorG36AD
namespace Go.Proofs.YtnooplpbpfiapaaGreatDoor
open Go.Pv Go.Pv.Ip
set_option maxRecDepth 100000
set_option maxHeartbeats 8000000
theorem z5i (x : Shn) (j : Int) (st : q37) : Rets P F.q1v [x.pv, .int j] st (.int (q9a x.j j)) := by
 refine H.q1v.pure q4m rfl rfl ?_
 repeat' (first 
  | (with_reducible refine Fresh.intro fun b hb => ?_) <;> (try simp -dsimp -implicitDefEqProofs [*] at hb)
  | (with_reducible refine Rets.xcall (k12 _ _ _) ?_)
  | (simp -dsimp -implicitDefEqProofs [*]))
def j6g (x : Card) : Option Shn → PV
 | none => .tuple [.agg [.int 0, .nil], .bool false]
 | some y => .tuple [.agg [.int 1, k79 (q9b x y)], .bool true]
theorem z5j (s : Ses) (hL : s.Len) (hr : q4v nJ s.shown = true) (x : Card) (hx : x.c.length ≤ 100000) (st : q37) (hG : GL st) : Rets P F.q06 [s.pv, x.pv] st (j6g x (q7n s x.j)) := by
 have hN := q46 hG.h0 hG.h1
 have h0 := hG.h0
 have h1 := hG.h1
 have hf := k2z hr x.j
 have cs := fun st => z1r F.q1v (fun y => q9a y.j x.j) x.j false s.shown hL.shown hf.weak st (fun y _ st _ => z5i y x.j st)
 have hfd := found hf
 rw [← z8g] at hfd
 have hfe : ∃ w i, k5v (fun y : Shn => q9a y.j x.j) s.shown = w ∧ q8q (fun y : Shn => q9a y.j x.j) s.shown = i ∧ (w = true → ∃ h : i < s.shown.length, q7n s x.j = some s.shown[i]) ∧ (w = false → q7n s x.j = none) := ⟨_, _, rfl, rfl, hfd⟩
 obtain ⟨w, i, e1, e2, hfd⟩ := hfe
 rw [e1, e2] at cs
 clear e1 e2 hf
 obtain ⟨W, hW⟩ : ∃ W, W = j6g x (q7n s x.j) := ⟨_, rfl⟩
 rw [← hW]
 refine H.q06.view q4m rfl rfl ?_
 cases w with
 | false =>
  rw [hfd.2 rfl] at hW
  subst hW
  clear hfd hL hG
  repeat' (first 
   | (with_reducible refine Fresh.intro fun b hb => ?_) <;> (try simp -dsimp -implicitDefEqProofs [*] at hb)
   | (with_reducible refine Rets.xcall (cs _) ?_)
   | (simp -dsimp -implicitDefEqProofs [*]))
  exact RetView.drop (st' := st) q4p ⟨rfl, rfl⟩
 | true =>
  obtain ⟨hil, e⟩ := hfd.1 rfl
  rw [e] at hW
  clear hfd e
  have s0 := Shn.row_sub s.shown i hil
  have hk : i * 34 < s.shown.length * 34 := by omega
  have hkl := hL.given _ (List.getElem_mem hil)
  have g1 : (Shn.row s.shown)[i * 34 + 1]? = some (q4b false s.shown[i].k) := z01 Shn.enc 34 Shn.len s.shown i 1 hil (by omega)
  have g2 : sub (Shn.row s.shown) (i * 34 + 2) 32 = some (q38 s.shown[i].s.1) := by
   have h3 : (Shn.row s.shown).length = s.shown.length * 34 := Shn.row_len _
   have h4 := s0
   unfold sub at h4 ⊢
   rw [if_pos (by omega)] at h4 ⊢
   have h5 := Option.some.inj h4
   have h6 : ((Shn.row s.shown).drop (i * 34 + 2)).take 32 = (s.shown[i].enc.drop 2).take 32 := by
    rw [← h5, List.drop_take, List.drop_drop, List.take_take, Nat.min_eq_left (by omega)]
   rw [h6]
   have h7 := Shn.sub_s s.shown[i]
   unfold sub at h7
   rw [if_pos (by simp)] at h7
   exact h7
  obtain ⟨y, hy⟩ : ∃ y, y = s.shown[i] := ⟨_, rfl⟩
  rw [← hy] at s0 hkl g1 g2 hW
  have G1 : ∀ h, (Shn.row s.shown)[i * 34 + 1]'h = q4b false y.k := fun h => by have := List.getElem?_eq_getElem h; rw [g1] at this; exact (Option.some.inj this).symm
  have hk2 : i * 34 + 1 < s.shown.length * 34 := by omega
  have co : ∀ st, q4n st 0 = some (.arr T.t8uint32 Sha.start.row) → q4n st 1 = some q6d → Rets P F.q3m [x.pv, q4b false y.k, .agg (q38 y.s.1)] st (.tuple [k79 (q9b x y), .bool (q9b x y).isSome, .int (if q6i x.r x.e x.j x.c y.k then 0 else 340)]) := fun st => z27 false false x.r x.e x.j x.c y.k hx hkl x.d.1 y.s.1 x.d.2 y.s.2 st
  replace hW : W = .tuple [.agg [.int 1, k79 (q9b x y)], .bool true] := hW
  generalize (if q6i x.r x.e x.j x.c y.k then (0 : Int) else 340) = B at *
  generalize q9b x y = O at *
  clear hy hkl hL hG hx
  cases O with
  | none =>
   subst hW
   simp only [k79, Option.isSome_none] at co ⊢
   repeat' (first 
    | (with_reducible refine Fresh.intro fun b hb => ?_) <;> (try simp -dsimp -implicitDefEqProofs [*] at hb)
    | (with_reducible refine Rets.xcall (cs _) ?_)
    | (with_reducible refine Rets.xcall (co _ (by simp [*]) (by simp [*])) ?_)
    | (with_reducible refine DrawLate.intro [] ?_)
    | (simp -dsimp -implicitDefEqProofs [*]))
   exact RetView.drop (st' := st) q4p ⟨rfl, rfl⟩
  | some m =>
   subst hW
   simp only [k79, Option.isSome_some] at co ⊢
   repeat' (first 
    | (with_reducible refine Fresh.intro fun b hb => ?_) <;> (try simp -dsimp -implicitDefEqProofs [*] at hb)
    | (with_reducible refine Rets.xcall (cs _) ?_)
    | (with_reducible refine Rets.xcall (co _ (by simp [*]) (by simp [*])) ?_)
    | (with_reducible refine DrawLate.intro [] ?_)
    | (simp -dsimp -implicitDefEqProofs [*]))
   exact RetView.drop (st' := st) q4p ⟨rfl, rfl⟩
open Go.Pv Go.Pv.Ip
set_option maxRecDepth 100000
set_option maxHeartbeats 8000000
def q58 (s : Ses) (j : Int) : Nat → Option (List Int)
 | 0 => some []
 | k + 1 => match q58 s j k with
  | none => none
  | some l => match z3k j k s.keys s.need.toNat with
   | none => none
   | some v => some (l ++ [v])
theorem k48 {s : Ses} {j : Int} : ∀ {k : Nat} {l : List Int}, q58 s j k = some l → l.length = k
 | 0, l, h => by cases h; rfl
 | k + 1, l, h => by
  rw [q58] at h
  cases h1 : q58 s j k with
  | none => rw [h1] at h; cases h
  | some m =>
   rw [h1] at h
   have := k48 h1
   cases h2 : z3k j k s.keys s.need.toNat with
   | none => rw [h2] at h; cases h
   | some v =>
    rw [h2] at h
    cases h
    simp [this]
theorem k22 {s : Ses} {j : Int} {k : Nat} (h : q58 s j k = none) : ∀ n, q58 s j (k + n) = none
 | 0 => h
 | n + 1 => by
  show q58 s j (k + n + 1) = none
  rw [q58, k22 h n]
def k0r (s : Ses) (x : Card) : Option (List Int) := match q58 s x.j s.crits.toNat with
 | none => none
 | some ks => q9l x.r x.e x.j x.c ks
def z1s (s : Ses) (x : Card) : PV := match q58 s x.j s.crits.toNat with
 | none => .tuple [.agg [.int 0, .nil], .bool false]
 | some ks => .tuple [.agg [.int 2, k79 (q9l x.r x.e x.j x.c ks)], .bool (q9l x.r x.e x.j x.c ks).isSome]
theorem k4d {α : Type} {row : List α → List PV} {k : Nat} {T : TypeId} {st : q37} {o : Option (Acc α)} (ho : accOk row k st o) {b : Nat} {x : PObj} (h : q4n st b = some x) : q4n (q6c T st o) b = some x := by
 cases o with
 | none => exact h
 | some a => exact (StLe.fresh ho.2) _ _ h
theorem z3e (s : Ses) (hR : RightP s) (hl : s.keys.length ≤ 1000) (x : Card) (hx : x.c.length ≤ 100000) (st : q37) : Rets P F.q10 [s.pv, x.pv] st (z1s s x) := by
 obtain ⟨n, hn⟩ : ∃ n : Nat, s.need = n := ⟨s.need.toNat, by have := hR.need; omega⟩
 obtain ⟨m, hm⟩ : ∃ m : Nat, s.crits = m := ⟨s.crits.toNat, by have := hR.crits; omega⟩
 have hm64 : m ≤ 64 := by have := hR.crits; omega
 have hn24 : n ≤ 24 := by have := hR.need; have := hR.many; omega
 have ck := fun c : Nat => j4r s x.j c n hn hn24 hl hR.holder (hR.good x.j c n)
 have hst : Hid (∀ k, q58 s x.j (k + 1) = match q58 s x.j k with
  | none => none
  | some l => match z3k x.j k s.keys n with
   | none => none
   | some v => some (l ++ [v])) := ⟨fun k => by rw [q58, hn]; rfl⟩
 obtain ⟨W, hW⟩ : ∃ W, W = z1s s x := ⟨_, rfl⟩
 rw [← hW]
 unfold z1s at hW
 rw [hm, Int.toNat_natCast] at hW
 replace hW := Hid.mk hW
 refine H.q10.view q4m rfl rfl ?_
 clear hR hl
 repeat' (first 
  | (with_reducible refine Fresh.intro fun b hb => ?_) <;> (try simp -dsimp -implicitDefEqProofs [*] at hb)
  | (simp -dsimp -implicitDefEqProofs [*]))
 revert b
 revert b
 revert b
 intro b1 hb1 b2 hb2 b3 hb3
 refine z6m (fun y : Nat × Option (Acc Int) => [(2, .ptr b1 0), (3, .ptr b2 0), (4, .ptr b3 0), (6, k1e y.2), (14, .int m), (15, .int y.1)]) (fun y => q6c T.int ((b3, .arr T.apiOpened [.int 0, .nil]) :: (b2, .arr T.apiSealed x.enc) :: (b1, k4a s) :: st) y.2) (fun y => y.1 ≤ m ∧ accOk q43 1 ((b3, .arr T.apiOpened [.int 0, .nil]) :: (b2, .arr T.apiSealed x.enc) :: (b1, k4a s) :: st) y.2 ∧ q58 s x.j y.1 = some (q5c y.2)) (fun y => m - y.1) (fun y => y.1 = m) (fun y : Nat × Option (Acc Int) => [(2, .ptr b1 0), (3, .ptr b2 0), (4, .ptr b3 0), (6, q4b false (q5c y.2)), (14, .int m), (15, .int y.1)]) (fun _ => (b3, .arr T.apiOpened [.int 0, .nil]) :: (b2, .arr T.apiSealed x.enc) :: (b1, k4a s) :: st)
  ?_ (0, none) ⟨Nat.zero_le _, trivial, rfl⟩ (by simp [hm]) (.refl _) ?_ ?_
 ·intro y h _
  exact View.acc rfl h.2.1 (.refl _) (by simp)
 ·rintro ⟨i, o⟩ ⟨hi, ho, hA⟩ hi2
  replace hi2 : i = m := hi2
  replace hA : q58 s x.j i = some (q5c o) := hA
  subst hi2
  have hkl := k48 hA
  have e := hW.out
  rw [hA] at e
  simp only at e
  simp only
  obtain ⟨ks, hks⟩ : ∃ ks, ks = q5c o := ⟨_, rfl⟩
  rw [← hks] at e hkl ⊢
  have cs := fun st => z8e false false x.r x.e x.j x.c ks hx (by omega) x.d.1 x.d.2 st
  have cs2 : ∀ st, Rets P F.q3p [x.pv, q4b false ks] st (.tuple [k79 (q9l x.r x.e x.j x.c ks), .int (y3c (q9l x.r x.e x.j x.c ks))]) := cs
  generalize q9l x.r x.e x.j x.c ks = O at *
  clear hW hA ho hks cs ck hst hi
  cases O with
  | none =>
   subst e
   simp only [k79, y3c, Option.isSome_none] at cs2 ⊢
   repeat' (first 
    | (with_reducible refine Rets.xcall (cs2 _) ?_)
    | (simp -dsimp -implicitDefEqProofs [*]))
   exact RetView.drop (st' := st) q4p ⟨rfl, rfl⟩
  | some v =>
   subst e
   simp only [k79, y3c, Option.isSome_some] at cs2 ⊢
   repeat' (first 
    | (with_reducible refine Rets.xcall (cs2 _) ?_)
    | (simp -dsimp -implicitDefEqProofs [*]))
   exact RetView.drop (st' := st) q4p ⟨rfl, rfl⟩
 ·rintro ⟨i, o⟩ ⟨hi, ho, hA⟩ hi2
  replace hi : i ≤ m := hi
  replace hi2 : ¬ i = m := hi2
  replace hA : q58 s x.j i = some (q5c o) := hA
  replace ho : accOk q43 1 ((b3, .arr T.apiOpened [.int 0, .nil]) :: (b2, .arr T.apiSealed x.enc) :: (b1, k4a s) :: st) o := ho
  have hw := q4d (n := i) (by omega)
  have hil : i < m := by omega
  have hkl := k48 hA
  have e := hst.out i
  rw [hA] at e
  simp only at e
  have c1 := ck i
  simp only
  clear hst ck hA hi2
  cases hv : z3k x.j i s.keys n with
  | none =>
   rw [hv] at e c1
   simp only at e
   have e2 := k22 e (m - (i + 1))
   rw [show i + 1 + (m - (i + 1)) = m by omega] at e2
   have e3 := hW.out
   rw [e2] at e3
   simp only at e3
   subst e3
   simp only [y6v] at c1
   clear hW e e2 hv
   cases o with
   | none =>
    simp only [z2s]
    repeat' (first 
     | (with_reducible refine Rets.xcall (c1 _) ?_)
     | (simp -dsimp -implicitDefEqProofs [*]))
    exact RetView.drop (st' := st) q4p ⟨rfl, rfl⟩
   | some a =>
    obtain ⟨ha, hsn⟩ := ho
    simp only [j0j] at hsn
    simp only [q85]
    clear ha
    repeat' (first 
     | (with_reducible refine Rets.xcall (c1 _) ?_)
     | (simp -dsimp -implicitDefEqProofs [*]))
    exact RetView.drop (st' := st) q4p ⟨rfl, rfl⟩
  | some v =>
   rw [hv] at e c1
   simp only at e
   simp only [y6v] at c1
   have e := Hid.mk e
   have hg1 := k4d (T := T.int) (b := b1) (x := k4a s) ho (by simp [*])
   have hg2 := k4d (T := T.int) (b := b2) (x := .arr T.apiSealed x.enc) ho (by simp [*])
   clear hW hv
   repeat' (first 
    | (with_reducible refine Rets.xcall (c1 _) ?_)
    | (with_reducible refine Lit.imm ?_)
    | (simp -dsimp -implicitDefEqProofs [*]))
   clear hg1 hg2
   refine q9h k9k k3u o ho [v] (by simp [q43]) rfl (by omega) (by omega) fun o2 ho2 hl2 => ?_
   have k1 : Hid (q58 s x.j (i + 1) = some (q5c o2)) := ⟨by rw [e.out, hl2]⟩
   clear hl2 e ho
   repeat' (simp -dsimp -implicitDefEqProofs [*])
   exact NextF.intro (fun y h _ => View.acc rfl h.2.1 (.refl _) (by simp)) (i + 1, o2) ⟨by simp only; omega, ho2, k1.out⟩ (by simp only; omega) (by simp) (.refl _)
def j12 (s : Ses) : Bool := decide (s.deadline + 1440 ≤ s.time)
theorem z8u (s : Ses) (hd : 0 ≤ s.deadline ∧ s.deadline < 2097152) (x : Card) (st : q37) : Rets P F.q2a [s.pv, x.pv] st (.tuple [.agg [.int 3, .nil], .bool (j12 s)]) := by
 have hw : IntKind.i64.wrap (s.deadline + 1440) = s.deadline + 1440 := q4h (by omega) (by omega)
 unfold j12
 refine H.q2a.pure q4m rfl rfl ?_
 repeat' (first 
  | (with_reducible refine Fresh.intro fun b hb => ?_) <;> (try simp -dsimp -implicitDefEqProofs [*] at hb)
  | (simp -dsimp -implicitDefEqProofs [*]))
 refine DrawLate.intro [b] ?_
 repeat' (simp -dsimp -implicitDefEqProofs [*])
def q7j (s : Ses) (j : Int) : Opd :=
 if q6g s = true then (match q62 s j with
  | none => ⟨3, []⟩
  | some x => match q7n s j with
   | some y => ⟨1, (q9b x y).getD []⟩
   | none => match k0r s x with
    | some m => ⟨2, m⟩
    | none => if j12 s = true then ⟨3, []⟩ else ⟨0, []⟩)
 else ⟨0, []⟩
theorem k7z (h : Int) : PLe (.agg [.int h, .nil]) (Opd.pv ⟨h, []⟩) := PLe.agg2 (.refl _) .nil1
theorem j8w (h : Int) (o : Option (List Int)) : PLe (.agg [.int h, k79 o]) (Opd.pv ⟨h, o.getD []⟩) := by
 cases o with
 | none => exact k7z h
 | some m => exact .refl _
theorem j4u {s : Ses} {j : Int} {x : Card} (h : q62 s j = some x) : x.j = j ∧ x ∈ s.sealed :=
 ⟨by have := List.find?_some h; simpa using this, List.mem_of_find?_eq_some h⟩
theorem z5k (s : Ses) (hL : s.Len) (hR : RightP s) (hl : s.keys.length ≤ 1000) (j : Int) (st : q37) (hG : GL st) : Rets P F.q1k [s.pv, .int j] st (q7j s j).pv := by
 have hN := q46 hG.h0 hG.h1
 have h0 := hG.h0
 have h1 := hG.h1
 have co := q6v s
 obtain ⟨W, hW⟩ : ∃ W, W = q7j s j := ⟨_, rfl⟩
 rw [← hW]
 unfold q7j at hW
 by_cases hO : q6g s = true
 case neg =>
  rw [if_neg hO] at hW
  rw [Bool.eq_false_iff.2 hO] at co
  clear hL hR hG
  subst hW
  refine H.q1k.view q4m rfl rfl ?_
  repeat' (first 
   | (with_reducible refine Fresh.intro fun b hb => ?_) <;> (try simp -dsimp -implicitDefEqProofs [*] at hb)
   | (with_reducible refine Rets.xcall (co _) ?_)
   | (simp -dsimp -implicitDefEqProofs [*]))
  exact RetView.le (k7z 0) (RetView.drop (st' := st) q4p ⟨rfl, rfl⟩)
 rw [if_pos hO] at hW
 rw [hO] at co
 have cc := k9v s hL.sealed hR.sealed j
 cases hx : q62 s j with
 | none =>
  rw [hx] at hW cc
  simp only at hW
  simp only [j1q, Option.isSome_none] at cc
  clear hL hR hG
  subst hW
  refine H.q1k.view q4m rfl rfl ?_
  repeat' (first 
   | (with_reducible refine Fresh.intro fun b hb => ?_) <;> (try simp -dsimp -implicitDefEqProofs [*] at hb)
   | (with_reducible refine Rets.xcall (co _) ?_)
   | (with_reducible refine Rets.xcall (cc _) ?_)
   | (simp -dsimp -implicitDefEqProofs [*]))
  exact RetView.le (k7z 3) (RetView.drop (st' := st) q4p ⟨rfl, rfl⟩)
 | some x =>
  obtain ⟨hxj, hxm⟩ := j4u hx
  have hxc := hL.cards x hxm
  rw [hx] at hW cc
  simp only at hW
  simp only [j1q, Option.isSome_some] at cc
  have k1 := fun st h0 h1 => z5j s hL hR.shown x hxc st ⟨h0, h1⟩
  have k2 := z3e s hR hl x hxc
  have k3 := z8u s hR.deadline x
  rw [hxj] at k1
  clear hL hR hG hxj hxm hxc hx
  refine H.q1k.view q4m rfl rfl ?_
  repeat' (first 
   | (with_reducible refine Fresh.intro fun b hb => ?_) <;> (try simp -dsimp -implicitDefEqProofs [*] at hb)
   | (with_reducible refine Rets.xcall (co _) ?_)
   | (with_reducible refine Rets.xcall (cc _) ?_)
   | (with_reducible refine Lit.imm ?_)
   | (simp -dsimp -implicitDefEqProofs [*]))
  clear co cc
  revert b
  revert b
  revert b
  intro b1 hb1 b2 hb2 b3 hb3
  have w1 : IntKind.i64.wrap 1 = 1 := by decide
  have w2 : IntKind.i64.wrap 2 = 2 := by decide
  have w3 : IntKind.i64.wrap 3 = 3 := by decide
  refine q4e (fun n : Nat => [(2, .ptr b1 0), (4, .ptr b2 0), (5, .ptr b3 0), (30, .list true [.func (.func F.q06) [s.pv] [], .func (.func F.q10) [s.pv] [], .func (.func F.q2a) [s.pv] []] 3), (31, .int 3), (32, .int n)]) (fun _ => (b3, .arr T.apiSealed x.enc) :: (b2, .arr T.apiOpened [.int 0, .nil]) :: (b1, k4a s) :: st) (fun n => n ≤ 3 ∧ (0 < n → q7n s j = none) ∧ (1 < n → k0r s x = none) ∧ (2 < n → j12 s = false)) (fun n => 3 - n) 0 ⟨Nat.zero_le _, by omega, by omega, by omega⟩ (by simp) (.refl _) ?_
  rintro n ⟨hn, i1, i2, i3⟩
  rcases (show n = 0 ∨ n = 1 ∨ n = 2 ∨ n = 3 by omega) with rfl | rfl | rfl | rfl
  ·clear i1 i2 i3 k2 k3
   cases hy : q7n s j with
   | none =>
    rw [hy] at k1
    replace k1 : ∀ st, q4n st 0 = some (.arr T.t8uint32 Sha.start.row) → q4n st 1 = some q6d → Rets P F.q06 [s.pv, x.pv] st (.tuple [.agg [.int 0, .nil], .bool false]) := k1
    clear hW hy
    repeat' (first 
     | (with_reducible refine Fresh.intro fun b hb => ?_) <;> (try simp -dsimp -implicitDefEqProofs [*] at hb)
     | (with_reducible refine Rets.xcall (k1 _ (by simp [*]) (by simp [*])) ?_)
     | (simp -dsimp -implicitDefEqProofs [*]))
    exact Next.intro 1 ⟨by omega, fun _ => rfl, by omega, by omega⟩ (by omega) (by simp [w1]) q4p
   | some y =>
    rw [hy] at k1 hW
    simp only at hW
    subst hW
    replace k1 : ∀ st, q4n st 0 = some (.arr T.t8uint32 Sha.start.row) → q4n st 1 = some q6d → Rets P F.q06 [s.pv, x.pv] st (.tuple [.agg [.int 1, k79 (q9b x y)], .bool true]) := k1
    have hle := j8w 1 (q9b x y)
    clear hy
    generalize (q9b x y).getD [] = m at *
    generalize k79 (q9b x y) = O at *
    repeat' (first 
     | (with_reducible refine Fresh.intro fun b hb => ?_) <;> (try simp -dsimp -implicitDefEqProofs [*] at hb)
     | (with_reducible refine Rets.xcall (k1 _ (by simp [*]) (by simp [*])) ?_)
     | (simp -dsimp -implicitDefEqProofs [*]))
    exact RetView.le hle (RetView.drop (st' := st) q4p ⟨rfl, rfl⟩)
  ·have j1 := i1 (by omega)
   clear i1 i2 i3 k1 k3
   rw [j1] at hW
   simp only at hW
   have j2 := Hid.mk j1
   clear j1
   unfold k0r at hW
   unfold z1s at k2
   cases hk : q58 s x.j s.crits.toNat with
   | none =>
    rw [hk] at hW k2
    simp only at hW k2
    have hs : Hid (k0r s x = none) := ⟨by unfold k0r; rw [hk]⟩
    clear hk hW
    repeat' (first 
     | (with_reducible refine Fresh.intro fun b hb => ?_) <;> (try simp -dsimp -implicitDefEqProofs [*] at hb)
     | (with_reducible refine Rets.xcall (k2 _) ?_)
     | (simp -dsimp -implicitDefEqProofs [*]))
    exact Next.intro 2 ⟨by omega, fun _ => j2.out, fun _ => hs.out, by omega⟩ (by omega) (by simp [w2]) q4p
   | some ks =>
    rw [hk] at hW k2
    simp only at hW k2
    cases hm : q9l x.r x.e x.j x.c ks with
    | none =>
     rw [hm] at hW k2
     simp only [k79, Option.isSome_none] at hW k2
     have hs : Hid (k0r s x = none) := ⟨by unfold k0r; rw [hk]; exact hm⟩
     clear hk hW hm
     repeat' (first 
      | (with_reducible refine Fresh.intro fun b hb => ?_) <;> (try simp -dsimp -implicitDefEqProofs [*] at hb)
      | (with_reducible refine Rets.xcall (k2 _) ?_)
      | (simp -dsimp -implicitDefEqProofs [*]))
     exact Next.intro 2 ⟨by omega, fun _ => j2.out, fun _ => hs.out, by omega⟩ (by omega) (by simp [w2]) q4p
    | some m =>
     rw [hm] at hW k2
     simp only [k79, Option.isSome_some] at hW k2
     subst hW
     clear hk hm
     repeat' (first 
      | (with_reducible refine Fresh.intro fun b hb => ?_) <;> (try simp -dsimp -implicitDefEqProofs [*] at hb)
      | (with_reducible refine Rets.xcall (k2 _) ?_)
      | (simp -dsimp -implicitDefEqProofs [*]))
     exact RetView.drop (st' := st) q4p ⟨rfl, rfl⟩
  ·have j1 := i1 (by omega)
   have j2 := i2 (by omega)
   clear i1 i2 i3 k1 k2
   rw [j1] at hW
   simp only at hW
   rw [j2] at hW
   simp only at hW
   have j1 := Hid.mk j1
   have j2 := Hid.mk j2
   rename_i g1 g2
   clear g1 g2
   cases hl : j12 s with
   | false =>
    rw [hl] at k3
    clear hW hl
    repeat' (first 
     | (with_reducible refine Fresh.intro fun b hb => ?_) <;> (try simp -dsimp -implicitDefEqProofs [*] at hb)
     | (with_reducible refine Rets.xcall (k3 _) ?_)
     | (simp -dsimp -implicitDefEqProofs [*]))
    exact Next.intro 3 ⟨by omega, fun _ => j1.out, fun _ => j2.out, fun _ => rfl⟩ (by omega) (by simp [w3]) q4p
   | true =>
    rw [hl] at k3
    rw [if_pos hl] at hW
    subst hW
    clear hl
    repeat' (first 
     | (with_reducible refine Fresh.intro fun b hb => ?_) <;> (try simp -dsimp -implicitDefEqProofs [*] at hb)
     | (with_reducible refine Rets.xcall (k3 _) ?_)
     | (simp -dsimp -implicitDefEqProofs [*]))
    exact RetView.le (k7z 3) (RetView.drop (st' := st) q4p ⟨rfl, rfl⟩)
  ·rw [i1 (by omega)] at hW
   simp only at hW
   rw [i2 (by omega)] at hW
   simp only at hW
   rw [if_neg (by rw [i3 (by omega)]; simp)] at hW
   subst hW
   clear i1 i2 i3 k1 k2 k3
   repeat' (simp -dsimp -implicitDefEqProofs [*])
   exact RetView.le (k7z 0) (RetView.drop (st' := st) q4p ⟨rfl, rfl⟩)
open Go.Pv
set_option maxRecDepth 100000
theorem z8v {l : List Shn} (hs : l.Pairwise fun x y => nJ x y < 0) {x : Shn} (hx : x ∈ l) : l.find? (fun y => decide (y.j = x.j)) = some x := by
 cases e : l.find? (fun y => decide (y.j = x.j)) with
 | none =>
  rw [List.find?_eq_none] at e
  exact absurd (decide_eq_true rfl) (e x hx)
 | some y =>
  have h1 := List.find?_some e
  have h2 := List.mem_of_find?_eq_some e
  rw [kc_shown.same hs h2 hx (cmpI_eq.2 (of_decide_eq_true h1))]
theorem z3f {l : List Card} (hs : l.Pairwise fun x y => cJ x y < 0) {x : Card} (hx : x ∈ l) : l.find? (fun y => decide (y.j = x.j)) = some x := by
 cases e : l.find? (fun y => decide (y.j = x.j)) with
 | none =>
  rw [List.find?_eq_none] at e
  exact absurd (decide_eq_true rfl) (e x hx)
 | some y =>
  have h1 := List.find?_some e
  have h2 := List.mem_of_find?_eq_some e
  rw [kc_card.same hs h2 hx (cmpI_eq.2 (of_decide_eq_true h1))]
theorem z5l {s : Ses} {j : Int} {x : Shn} (h : q7n s j = some x) : x.j = j ∧ x ∈ s.shown :=
 ⟨by have := List.find?_some h; simpa using this, List.mem_of_find?_eq_some h⟩
theorem z65 {s : Ses} {j : Int} {x : Card} {y : Shn} (ho : q6g s = true) (hx : q62 s j = some x) (hy : q7n s j = some y) : q7j s j = ⟨1, (q9b x y).getD []⟩ := by
 unfold q7j
 rw [if_pos ho, hx]
 simp only
 rw [hy]
theorem z8w {s : Ses} {j : Int} (ho : q6g s = true) (hx : q62 s j = none) : q7j s j = ⟨3, []⟩ := by
 unfold q7j
 rw [if_pos ho, hx]
end Go.Proofs.YtnooplpbpfiapaaGreatDoor
