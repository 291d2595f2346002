/- OpeningOrder. -/
import Derived.Test.YtnooplpbpfiapaaGreatDoorG36CF
import Derived.Test.YtnooplpbpfiapaaGreatDoorG36CA
namespace Go.Proofs.YtnooplpbpfiapaaGreatDoor
open Go.Pv
set_option maxRecDepth 100000
set_option maxHeartbeats 16000000
abbrev k6j (x : Card) : Act := ⟨2, 0, x, default, default⟩
theorem k2l (s : Ses) (hL : s.Len) (x : Card) (hx : x.c.length ≤ 100000) (hl : s.sealed.length ≤ 1000 ∧ s.keys.length ≤ 1000 ∧ s.shown.length ≤ 1000) (st : q49) (hG : GL st) : Rets P F.q1e [s.pv, x.pv] st (.tuple [(doS s (k6j x)).pv, .int (doE s (k6j x))]) := by
 have hN := q6a hG.h0 hG.h1
 have h0 := hG.h0
 have h1 := hG.h1
 have c : ∀ st, q5s st 0 = some (.arr T.t8uint32 Sha.start.row) → q5s st 1 = some q87 → Rets P F.q2j [s.pv, .agg (q5e (.int 2 :: .int 0 :: (q7c ++ ([.int 0, .int 0, .int 0, .int 0] ++ (.int 0 :: .nil :: zz)))) 2 x.enc)] st (.tuple [(doS s (k6j x)).pv, .int (doE s (k6j x))]) := fun st h0 h1 =>
  Rets.args (qs := [s.pv, (k6j x).pv]) ⟨.refl _, .aggs (j4b x), trivial⟩ (k6f s hL (k6j x) hx (show ([] : List Int).length ≤ 100000 by decide) hl st ⟨h0, h1⟩)
 generalize doS s (k6j x) = Z at *
 generalize doE s (k6j x) = E at *
 simp only [List.cons_append, List.nil_append] at c
 clear hG hL hx
 refine H.q1e.view q5i rfl rfl ?_
 repeat' (first 
  | (with_reducible refine Fresh.intro fun b hb => ?_) <;> (try simp -dsimp -implicitDefEqProofs [*] at hb)
  | (with_reducible refine Rets.xcall (c _ (by simp [*]) (by simp [*])) ?_)
  | (simp -dsimp -implicitDefEqProofs [*]))
 exact RetView.drop (st' := st) q5m ⟨rfl, rfl⟩
theorem y07 (x y : Card) : q5e (q5e (q7c ++ q7c) 0 x.enc) 36 y.enc = x.enc ++ y.enc := by
 have h1 : q5e (q7c ++ q7c) 0 x.enc = x.enc ++ q7c := by
  have := k3n [] q7c q7c x.enc (by simp)
  exact this
 rw [h1]
 have := k3n x.enc q7c [] y.enc (by simp)
 rw [List.append_nil, List.append_nil, Card.len] at this
 exact this
theorem z9a {s : Ses} {x : Card} (h : doE s (k6j x) = 0) : q62 s = true ∧ ∃ l, k0x s x = .inl l ∧ doS s (k6j x) = { s with sealed := l } := by
 have hd := j6w h
 obtain ⟨h0, h1⟩ := z5w hd
 refine ⟨h0, ?_⟩
 obtain ⟨X, hX⟩ : ∃ X, X = doS s (k6j x) := ⟨_, rfl⟩
 rw [← hX] at h1 ⊢
 clear hX hd
 cases h1 with
 | dPass k _ => exact absurd (show (2 : Int) = 1 from k) (by decide)
 | @dSeal _ l e => exact ⟨l, e, rfl⟩
 | dShare k _ => exact absurd (show (2 : Int) = 3 from k) (by decide)
 | dShow k _ => exact absurd (show (2 : Int) = 4 from k) (by decide)
theorem j4f {s : Ses} (hr : RightP s) {x : Card} {l : List Card} (h : k0x s x = .inl l) : doE s (k6j x) = 0 ∧ doS s (k6j x) = { s with sealed := l } :=
 j8i (Did.to ((q7r s).2 hr) (.dSeal rfl h))
theorem z76 (s : Ses) (hw : Wide s) (x y : Card) (st : q49) (hG : GL st) : Rets P F.q0f [s.pv, x.pv, y.pv] st (.bool true) := by
 have hN := q6a hG.h0 hG.h1
 have h0 := hG.h0
 have h1 := hG.h1
 have cs := fun st h0 h1 => z0b st ⟨h0, h1⟩
 have cf := z5r s
 by_cases hF : y0z s = true
 case neg =>
  rw [Bool.eq_false_iff.2 hF] at cf
  clear hF hw hG
  refine H.q0f.view q5i rfl rfl ?_
  repeat' (first 
   | (with_reducible refine Fresh.intro fun b hb => ?_) <;> (try simp -dsimp -implicitDefEqProofs [*] at hb)
   | (with_reducible refine Rets.xcall (cs _ (by simp [*]) (by simp [*])) ?_)
   | (with_reducible refine Rets.xcall (cf _) ?_)
   | (simp -dsimp -implicitDefEqProofs [*]))
  exact RetView.drop (st' := st) q5m ⟨rfl, rfl⟩
 rw [hF] at cf
 have ca : ∀ st, Rets P F.q1h [.list true (q5e (q5e (q7c ++ q7c) 0 x.enc) 36 y.enc) 2] st (.bool (z52 x && z52 y)) := fun st => by
  have := k1h true [x, y] (by simp) st
  simp only [List.all_cons, List.all_nil, Bool.and_true] at this
  rw [y07]
  have e : Card.lst true [x, y] = .list true (x.enc ++ y.enc) 2 := by simp [Card.row]
  rwa [e] at this
 simp only [List.cons_append, List.nil_append] at ca
 by_cases hC : (z52 x && z52 y) = true
 case neg =>
  rw [Bool.eq_false_iff.2 hC] at ca
  clear hF hC hw hG
  refine H.q0f.view q5i rfl rfl ?_
  repeat' (first 
   | (with_reducible refine Fresh.intro fun b hb => ?_) <;> (try simp -dsimp -implicitDefEqProofs [*] at hb)
   | (with_reducible refine Rets.xcall (cs _ (by simp [*]) (by simp [*])) ?_)
   | (with_reducible refine Rets.xcall (cf _) ?_)
   | (with_reducible refine Rets.xcall (ca _) ?_)
   | (with_reducible refine Lit.imm ?_)
   | (simp -dsimp -implicitDefEqProofs [*]))
  exact RetView.drop (st' := st) q5m ⟨rfl, rfl⟩
 rw [hC] at ca
 rw [Bool.and_eq_true, k6g, k6g] at hC
 have hx : x.c.length ≤ 100000 := by omega
 have hy : y.c.length ≤ 100000 := by omega
 obtain ⟨hL, l1, l2, l3, l4⟩ := j3z hF hw.c hw.n
 have cr := k97 s hL
 by_cases hR : q62 s = true
 case neg =>
  rw [Bool.eq_false_iff.2 hR] at cr
  clear hF hw hG hL hR l1 l2 l3 l4 hx hy hC
  refine H.q0f.view q5i rfl rfl ?_
  repeat' (first 
   | (with_reducible refine Fresh.intro fun b hb => ?_) <;> (try simp -dsimp -implicitDefEqProofs [*] at hb)
   | (with_reducible refine Rets.xcall (cs _ (by simp [*]) (by simp [*])) ?_)
   | (with_reducible refine Rets.xcall (cf _) ?_)
   | (with_reducible refine Rets.xcall (ca _) ?_)
   | (with_reducible refine Rets.xcall (cr _) ?_)
   | (with_reducible refine Lit.imm ?_)
   | (simp -dsimp -implicitDefEqProofs [*]))
  exact RetView.drop (st' := st) q5m ⟨rfl, rfl⟩
 have hRP := (q7r s).1 hR
 rw [hR] at cr
 by_cases hj : x.j = y.j
 ·clear hF hw hG hL hR hRP l1 l2 l3 l4 hx hy hC
  refine H.q0f.view q5i rfl rfl ?_
  repeat' (first 
   | (with_reducible refine Fresh.intro fun b hb => ?_) <;> (try simp -dsimp -implicitDefEqProofs [*] at hb)
   | (with_reducible refine Rets.xcall (cs _ (by simp [*]) (by simp [*])) ?_)
   | (with_reducible refine Rets.xcall (cf _) ?_)
   | (with_reducible refine Rets.xcall (ca _) ?_)
   | (with_reducible refine Rets.xcall (cr _) ?_)
   | (with_reducible refine Lit.imm ?_)
   | (simp -dsimp -implicitDefEqProofs [*]))
  exact RetView.drop (st' := st) q5m ⟨rfl, rfl⟩
 have p1 := fun st h0 h1 => k2l s hL x hx ⟨by omega, by omega, by omega⟩ st ⟨h0, h1⟩
 have p2 := fun st h0 h1 => k2l s hL y hy ⟨by omega, by omega, by omega⟩ st ⟨h0, h1⟩
 have hent := H.q1e.enters
 by_cases hE1 : doE s (k6j x) = 0
 case neg =>
  generalize doS s (k6j x) = X at *
  generalize doS s (k6j y) = Y at *
  generalize doE s (k6j x) = E at *
  generalize doE s (k6j y) = E' at *
  clear hF hw hG hL hR hRP l1 l2 l3 l4 hx hy hC
  refine H.q0f.view q5i rfl rfl ?_
  repeat' (first 
   | (with_reducible refine Fresh.intro fun b hb => ?_) <;> (try simp -dsimp -implicitDefEqProofs [*] at hb)
   | (with_reducible refine Rets.xcall (cs _ (by simp [*]) (by simp [*])) ?_)
   | (with_reducible refine Rets.xcall (cf _) ?_)
   | (with_reducible refine Rets.xcall (ca _) ?_)
   | (with_reducible refine Rets.xcall (cr _) ?_)
   | (with_reducible refine Rets.xcall (p1 _ (by simp [*]) (by simp [*])) ?_)
   | (with_reducible refine Rets.xcall (p2 _ (by simp [*]) (by simp [*])) ?_)
   | (with_reducible refine Lit.imm ?_)
   | (simp -dsimp -implicitDefEqProofs [*]))
  exact RetView.drop (st' := st) q5m ⟨rfl, rfl⟩
 by_cases hE2 : doE s (k6j y) = 0
 case neg =>
  rw [hE1] at p1
  generalize doS s (k6j x) = X at *
  generalize doS s (k6j y) = Y at *
  generalize doE s (k6j y) = E' at *
  clear hF hw hG hL hR hRP l1 l2 l3 l4 hx hy hC hE1
  refine H.q0f.view q5i rfl rfl ?_
  repeat' (first 
   | (with_reducible refine Fresh.intro fun b hb => ?_) <;> (try simp -dsimp -implicitDefEqProofs [*] at hb)
   | (with_reducible refine Rets.xcall (cs _ (by simp [*]) (by simp [*])) ?_)
   | (with_reducible refine Rets.xcall (cf _) ?_)
   | (with_reducible refine Rets.xcall (ca _) ?_)
   | (with_reducible refine Rets.xcall (cr _) ?_)
   | (with_reducible refine Rets.xcall (p1 _ (by simp [*]) (by simp [*])) ?_)
   | (with_reducible refine Rets.xcall (p2 _ (by simp [*]) (by simp [*])) ?_)
   | (with_reducible refine Lit.imm ?_)
   | (simp -dsimp -implicitDefEqProofs [*]))
  exact RetView.drop (st' := st) q5m ⟨rfl, rfl⟩
 rw [hE1] at p1
 rw [hE2] at p2
 obtain ⟨-, lx, hlx, hX⟩ := z9a hE1
 obtain ⟨-, ly, hly, hY⟩ := z9a hE2
 have LX : (doS s (k6j x)).Len := z75 hL (by omega) (by omega) (by omega) hx (show ([] : List Int).length ≤ 100000 by decide)
 have LY : (doS s (k6j y)).Len := z75 hL (by omega) (by omega) (by omega) hy (show ([] : List Int).length ≤ 100000 by decide)
 have RX := hRP.dSeal hlx
 have RY := hRP.dSeal hly
 have nX := k6i (z34 hlx)
 have nY := k6i (z34 hly)
 have hlaw := j34 hRP hj hlx hly
 rw [hX] at p1 LX
 rw [hY] at p2 LY
 have lXs : ({ s with sealed := lx } : Ses).sealed.length ≤ 1000 ∧ ({ s with sealed := lx } : Ses).keys.length ≤ 1000 ∧ ({ s with sealed := lx } : Ses).shown.length ≤ 1000 := ⟨Nat.le_trans nX (by omega), Nat.le_trans l3 (by omega), Nat.le_trans l4 (by omega)⟩
 have lYs : ({ s with sealed := ly } : Ses).sealed.length ≤ 1000 ∧ ({ s with sealed := ly } : Ses).keys.length ≤ 1000 ∧ ({ s with sealed := ly } : Ses).shown.length ≤ 1000 := ⟨Nat.le_trans nY (by omega), Nat.le_trans l3 (by omega), Nat.le_trans l4 (by omega)⟩
 have hz : q7h { s with sealed := lx } = false → q7h { s with sealed := ly } = false → ∃ Z : Ses, Z.Len ∧ doE { s with sealed := lx } (k6j y) = 0 ∧ doE { s with sealed := ly } (k6j x) = 0 ∧ doS { s with sealed := lx } (k6j y) = Z ∧ doS { s with sealed := ly } (k6j x) = Z := fun g1 g2 => by
  obtain ⟨l, k1, k2⟩ := hlaw g1 g2
  obtain ⟨e1, e2⟩ := j4f RX k1
  obtain ⟨e3, e4⟩ := j4f RY k2
  refine ⟨{ s with sealed := l }, ?_, e1, e3, e2, e4⟩
  have := z75 LX lXs.1 lXs.2.1 lXs.2.2 (a := k6j y) hy (show ([] : List Int).length ≤ 100000 by decide)
  rw [e2] at this
  exact this
 have g1 := fun st h0 h1 => k32 _ LX st ⟨h0, h1⟩
 have g2 := fun st h0 h1 => k32 _ LY st ⟨h0, h1⟩
 rw [(q7r _).2 RX, Bool.true_and, if_pos rfl] at g1
 rw [(q7r _).2 RY, Bool.true_and, if_pos rfl] at g2
 have p3 := fun st h0 h1 => k2l _ LX y hy lXs st ⟨h0, h1⟩
 have p4 := fun st h0 h1 => k2l _ LY x hx lYs st ⟨h0, h1⟩
 clear LX LY RX RY nX nY hlaw lXs lYs hX hY hlx hly hE1 hE2
 obtain ⟨X, hX⟩ : ∃ X : Ses, X = { s with sealed := lx } := ⟨_, rfl⟩
 obtain ⟨Y, hY⟩ : ∃ X : Ses, X = { s with sealed := ly } := ⟨_, rfl⟩
 rw [← hX] at p1 g1 p3 hz
 rw [← hY] at p2 g2 p4 hz
 clear hX hY hF hw hG hL hR hRP l1 l2 l3 l4 hx hy hC
 cases hO : q7h X with
 | true =>
  rw [hO] at g1
  clear hz p3 p4 hO
  refine H.q0f.view q5i rfl rfl ?_
  repeat' (first 
   | (with_reducible refine Fresh.intro fun b hb => ?_) <;> (try simp -dsimp -implicitDefEqProofs [*] at hb)
   | (with_reducible refine Rets.xcall (cs _ (by simp [*]) (by simp [*])) ?_)
   | (with_reducible refine Rets.xcall (cf _) ?_)
   | (with_reducible refine Rets.xcall (ca _) ?_)
   | (with_reducible refine Rets.xcall (cr _) ?_)
   | (with_reducible refine Rets.xcall (p1 _ (by simp [*]) (by simp [*])) ?_)
   | (with_reducible refine Rets.xcall (p2 _ (by simp [*]) (by simp [*])) ?_)
   | (with_reducible refine Rets.xcall (g1 _ (by simp [*]) (by simp [*])) ?_)
   | (with_reducible refine Rets.xcall (g2 _ (by simp [*]) (by simp [*])) ?_)
   | (with_reducible refine Lit.imm ?_)
   | (simp -dsimp -implicitDefEqProofs [*]))
  exact RetView.drop (st' := st) q5m ⟨rfl, rfl⟩
 | false =>
 cases hQ : q7h Y with
 | true =>
  rw [hO] at g1
  rw [hQ] at g2
  clear hz p3 p4 hO hQ
  refine H.q0f.view q5i rfl rfl ?_
  repeat' (first 
   | (with_reducible refine Fresh.intro fun b hb => ?_) <;> (try simp -dsimp -implicitDefEqProofs [*] at hb)
   | (with_reducible refine Rets.xcall (cs _ (by simp [*]) (by simp [*])) ?_)
   | (with_reducible refine Rets.xcall (cf _) ?_)
   | (with_reducible refine Rets.xcall (ca _) ?_)
   | (with_reducible refine Rets.xcall (cr _) ?_)
   | (with_reducible refine Rets.xcall (p1 _ (by simp [*]) (by simp [*])) ?_)
   | (with_reducible refine Rets.xcall (p2 _ (by simp [*]) (by simp [*])) ?_)
   | (with_reducible refine Rets.xcall (g1 _ (by simp [*]) (by simp [*])) ?_)
   | (with_reducible refine Rets.xcall (g2 _ (by simp [*]) (by simp [*])) ?_)
   | (with_reducible refine Lit.imm ?_)
   | (simp -dsimp -implicitDefEqProofs [*]))
  exact RetView.drop (st' := st) q5m ⟨rfl, rfl⟩
 | false =>
  obtain ⟨Z, zl, z1, z2, z3, z4⟩ := hz hO hQ
  rw [hO] at g1
  rw [hQ] at g2
  rw [z1, z3] at p3
  rw [z2, z4] at p4
  have p5 := z19 Z zl
  clear hz hO hQ z1 z2 z3 z4 zl
  refine H.q0f.view q5i rfl rfl ?_
  repeat' (first 
   | (with_reducible refine Fresh.intro fun b hb => ?_) <;> (try simp -dsimp -implicitDefEqProofs [*] at hb)
   | (with_reducible refine Rets.xcall (cs _ (by simp [*]) (by simp [*])) ?_)
   | (with_reducible refine Rets.xcall (cf _) ?_)
   | (with_reducible refine Rets.xcall (ca _) ?_)
   | (with_reducible refine Rets.xcall (cr _) ?_)
   | (with_reducible refine Rets.xcall (p1 _ (by simp [*]) (by simp [*])) ?_)
   | (with_reducible refine Rets.xcall (p2 _ (by simp [*]) (by simp [*])) ?_)
   | (with_reducible refine Rets.xcall (g1 _ (by simp [*]) (by simp [*])) ?_)
   | (with_reducible refine Rets.xcall (g2 _ (by simp [*]) (by simp [*])) ?_)
   | (with_reducible refine Rets.xcall (p3 _ (by simp [*]) (by simp [*])) ?_)
   | (with_reducible refine Rets.xcall (p4 _ (by simp [*]) (by simp [*])) ?_)
   | (with_reducible refine Rets.xcall (p5 _) ?_)
   | (with_reducible refine Lit.imm ?_)
   | (simp -dsimp -implicitDefEqProofs [*]))
  exact RetView.drop (st' := st) q5m ⟨rfl, rfl⟩
set_option maxRecDepth 100000
open Go.ChangeShapes Go.WideShapes Go.ChangeAt Go.RowKit Go.Pv
set_option maxRecDepth 100000 in
theorem k49 (os : Os) (started : os.Started) (H : Type) (enc : TypeId × Value → H) :
  ReturnsInHanded {} Tryz.checked os 6 .any (fun w args => (Rows.openingOrderSpec.pre enc Tryz.prog Tryz.f6 [] false w args ∧ laidMetH Tryz.prog z5x w) ∧ sizedMet enc Tryz.prog Tryz.f6 (OpenSpec.ofChange Rows.openingOrderSpec) false w args) (Rows.openingOrderSpec.post enc Tryz.prog Tryz.f6 false true false false) := by
 refine q7f (C := Tryz.checked) (X := fun w _ => laidMetH Tryz.prog z5x w) (fun _ _ _ hh h => h.of_heap hh) own started (by kernel_rfl) Tryz.func6
  (ChangeSpec.witness_shaped (enc := enc) (C := Tryz.checked) (os := os) (X := fun w _ => laidMetH Tryz.prog z5x w) false (World.doorLaid Tryz.prog 4000 os) #[.agg #[.int .i64 0, .int .i64 0, .int .i64 0, .slice none 0 0, .int .i64 0, .int .i64 0, .int .i64 0, .slice none 0 0, .slice none 0 0, .slice none 0 0], .agg #[.int .i64 0, .int .i64 0, .int .i64 0, .slice none 0 0, .int .u8 0, .int .u8 0, .int .u8 0, .int .u8 0, .int .u8 0, .int .u8 0, .int .u8 0, .int .u8 0, .int .u8 0, .int .u8 0, .int .u8 0, .int .u8 0, .int .u8 0, .int .u8 0, .int .u8 0, .int .u8 0, .int .u8 0, .int .u8 0, .int .u8 0, .int .u8 0, .int .u8 0, .int .u8 0, .int .u8 0, .int .u8 0, .int .u8 0, .int .u8 0, .int .u8 0, .int .u8 0, .int .u8 0, .int .u8 0, .int .u8 0, .int .u8 0], .agg #[.int .i64 0, .int .i64 0, .int .i64 0, .slice none 0 0, .int .u8 0, .int .u8 0, .int .u8 0, .int .u8 0, .int .u8 0, .int .u8 0, .int .u8 0, .int .u8 0, .int .u8 0, .int .u8 0, .int .u8 0, .int .u8 0, .int .u8 0, .int .u8 0, .int .u8 0, .int .u8 0, .int .u8 0, .int .u8 0, .int .u8 0, .int .u8 0, .int .u8 0, .int .u8 0, .int .u8 0, .int .u8 0, .int .u8 0, .int .u8 0, .int .u8 0, .int .u8 0, .int .u8 0, .int .u8 0, .int .u8 0, .int .u8 0]] 8 rfl (World.shaped_of_RefB (by kernel_rfl) (by kernel_rfl)) (by kernel_rfl) (by kernel_rfl) (by kernel_rfl) (z88 os _)) ?_
 intro W base args ds gs before hsh hval0 hW _ hwt hL
 have hg := in36 hsh hL
 have hval : ∀ (j : Nat) t v, Tryz.f6.params[j]? = some t → args[j]? = some v → Value.okWide Tryz.prog W .any base t v := hval0
 have hW' := hW
 obtain ⟨p, q, hA0, hV, rfl, hfz, hnd⟩ := hW
 have hA : DataW.TrodAll enc Tryz.prog W 0 (fun _ => true) true Tryz.f6.params.toList args.toList ds p := hA0
 rw [Tryz.params6] at hA hval
 obtain ⟨v0, vs0, d0, ds0, p0, q0, hargs, rfl, rfl, h0, r0⟩ := trodAll_cons hA
 obtain ⟨v1, vs1, d1, ds1, p1, q1, rfl, rfl, rfl, h1, r1⟩ := trodAll_cons r0
 obtain ⟨v2, vs2, d2, ds2, p2, q2, rfl, rfl, rfl, h2, r2⟩ := trodAll_cons r1
 obtain ⟨rfl, rfl, rfl⟩ := trodAll_nil r2
 obtain rfl : args = #[v0, v1, v2] := by cases args; simp_all
 obtain ⟨rfl, rfl⟩ := trodVars_none hV
 have k0 := h0
 have lt0 : ∀ x ∈ p0, x.block < W.heap.size := by obtain ⟨m, hm⟩ := k0; exact DataW.trod_lt m _ _ _ hm
 obtain ⟨x0_0, x0_1, w0⟩ := Opens.argS (j8m hg) Tryz.underlying27 (hval 0 27 v0 rfl rfl) h0
 have k1 := h1
 have lt1 : ∀ x ∈ p1, x.block < W.heap.size := by obtain ⟨m, hm⟩ := k1; exact DataW.trod_lt m _ _ _ hm
 obtain ⟨x1_0, x1_1, w1⟩ := Opens.argS (z0c hg) Tryz.underlying31 (hval 1 31 v1 rfl rfl) h1
 have k2 := h2
 have lt2 : ∀ x ∈ p2, x.block < W.heap.size := by obtain ⟨m, hm⟩ := k2; exact DataW.trod_lt m _ _ _ hm
 obtain ⟨x2_0, x2_1, w2⟩ := Opens.argS (z0c hg) Tryz.underlying31 (hval 2 31 v2 rfl rfl) h2
 clear hA0 hval0
 refine ((_root_.Go.Proofs.YtnooplpbpfiapaaGreatDoor.H.q0f).bridgeG (gl := gl36) (z76 x0_0 x0_1 x1_0 x2_0 _ ⟨j8j, j8k⟩) (w := W) hg (vs := [v0, v1, v2]) ⟨w0, w1, w2, trivial⟩).mono fun e W' ⟨he, bel⟩ => ?_
 subst he
 exact ⟨_, rfl, _, _, _, [], _, [], hW', trodAll_mk1 (shut_bool Tryz.underlying4 _), (trodAll_cons_mk (Go.RowKit.Below.trod k7f (by kernel_rfl) (of_decide_eq_true (by kernel_rfl)) k0 bel lt0) (trodAll_cons_mk (Go.RowKit.Below.trod k7f (by kernel_rfl) (of_decide_eq_true (by kernel_rfl)) k1 bel lt1) (trodAll_cons_mk (Go.RowKit.Below.trod k7f (by kernel_rfl) (of_decide_eq_true (by kernel_rfl)) k2 bel lt2) trodAll_mk0))), rfl, bel.frame _, fun h => by cases h⟩
theorem k8e : Rows.OpeningOrderSaid :=
 OpenClaim.holds_of_wide 6 Tryz.f6 rfl rfl rfl rfl rfl rfl rfl ⟨rfl, rfl, rfl, rfl, rfl⟩ rfl rfl rfl rfl rfl (by kernel_rfl) Tryz.func6 (by kernel_rfl)
  (of_decide_eq_true (by kernel_rfl)) (by unfold Func.isWrapper; first | (rw [if_pos (by decide +kernel)]; kernel_rfl) | (rw [if_neg (by decide +kernel)]; exact ⟨rfl, rfl⟩))
  (fun os started H enc _ => k49 os started H enc)
theorem openingOrder_holds : Rows.OpeningOrderCardSaid :=
 Claim7.holds_tied_plain_at .later [] [.data, .data] true (true, "ffc4543b999d2e2c31cdf81055f5021fbefa10124ccad2d48d02d065e1def487") true
  k8e (fun _ h => by cases h) (by kernel_rfl) (fun _ h => by cases h) openingOrder_row_tie rfl ⟨rfl, rfl⟩ (by kernel_rfl) rfl
  (fun f fn hf hfn => by
   obtain rfl : f = 6 := Option.some.inj ((show Tryz.prog.funcNamed "podium/podiumlaw36.OpeningOrder" = some 6 by kernel_rfl).symm.trans hf) |>.symm
   obtain rfl : fn = Tryz.f6 := (Option.some.inj (Tryz.func6.symm.trans hfn)).symm
   exact ⟨by kernel_rfl, fun j t ht => by
    rw [Tryz.params6] at ht
    have hm : t ∈ [27, 31, 31] := by simpa using Array.mem_of_getElem? ht
    have hall : ([27, 31, 31].all fun u => !Tryz.prog.wantsStandIn u) = true := by kernel_rfl
    exact (show Tryz.prog.wantsStandIn t = false by simpa using List.all_eq_true.1 hall t hm)⟩)
  (by kernel_rfl)
end Go.Proofs.YtnooplpbpfiapaaGreatDoor
