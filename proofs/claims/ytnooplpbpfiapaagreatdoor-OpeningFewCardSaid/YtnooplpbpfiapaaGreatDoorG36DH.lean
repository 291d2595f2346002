/- OpeningFew. -/
import Derived.Test.YtnooplpbpfiapaaGreatDoorG36DG
import Derived.Test.YtnooplpbpfiapaaGreatDoorG36CE
namespace Go.Proofs.YtnooplpbpfiapaaGreatDoor
open Go.Pv Go.Pv.Ip
set_option maxRecDepth 100000
set_option maxHeartbeats 16000000
theorem y0z (o c h v : Int) : PsLe (.int 3 :: .int 0 :: (k19 ++ ([.int o, .int c, .int h, .int v] ++ (.int 0 :: .nil :: zz)))) (⟨3, 0, default, ⟨o, c, h, v⟩, default⟩ : Act).enc := by
 unfold Act.enc
 refine ⟨.refl _, .refl _, PsLe.append ?_ (PsLe.append (PsLe.refl _) ?_)⟩
 ·exact ⟨.refl _, .refl _, .refl _, .nil1, PsLe.refl _⟩
 ·exact ⟨.refl _, .nil1, PsLe.refl _⟩
theorem y00 {α : Type} {p : α → Bool} {l : List α} (h1 : ∀ k (h : k < l.length), p l[k] = false) : l.find? p = none := by
 rw [List.find?_eq_none]
 intro x hx
 obtain ⟨k, hk, rfl⟩ := List.mem_iff_getElem.1 hx
 rw [h1 k hk]
 simp
abbrev actH (x : Sh) : Act := ⟨3, 0, default, x, default⟩
theorem j6w {s : Ses} (hr : RightP s) {x : Sh} {l : List Sh} (h : k0q s x = .inl l) : doR s (actH x) = .inl { s with keys := l } :=
 Did.to ((q8a s).2 hr) (.dShare rfl h)
theorem z80 {s : Ses} (hL : s.Len) {K : List Sh} (h : K.length ≤ 1000) : ({ s with keys := K } : Ses).Len :=
 ⟨hL.judges, hL.sealed, Nat.le_trans h (by omega), hL.shown, hL.cards, hL.given, hL.crits, hL.need⟩
theorem j4b (s : Ses) (hw : Wide s) (jd : Int) (hj0 : 0 ≤ jd ∧ jd < 256) (marks : List Int) (hml : marks.length ≤ 9223372036854775807) (st : q43) (hG : GL st) : Rets P F.q0w [s.pv, .val (.int .u8 jd), q49 false marks] st (.bool true) := by
 have hN := q57 hG.h0 hG.h1
 have h0 := hG.h0
 have h1 := hG.h1
 have cs := fun st h0 h1 => z7s st ⟨h0, h1⟩
 have cf := j3v s
 by_cases hF : y0p s = true
 case neg =>
  rw [Bool.eq_false_iff.2 hF] at cf
  clear hF hw hG
  refine H.q0w.view q5d rfl rfl ?_
  repeat' (first 
   | (with_reducible refine Fresh.intro fun b hb => ?_) <;> (try simp -dsimp -implicitDefEqProofs [*] at hb)
   | (with_reducible refine Rets.xcall (cs _ (by simp [*]) (by simp [*])) ?_)
   | (with_reducible refine Rets.xcall (cf _) ?_)
   | (simp -dsimp -implicitDefEqProofs [*]))
  exact RetView.drop (st' := st) q5l ⟨rfl, rfl⟩
 obtain ⟨hL, l1, l2, l3, l4⟩ := y0q hF hw.c hw.n
 rw [hF] at cf
 have cr := z7m s hL
 by_cases hR : q67 s = true
 case neg =>
  rw [Bool.eq_false_iff.2 hR] at cr
  clear hF hw hG hL hR l1 l2 l3 l4
  refine H.q0w.view q5d rfl rfl ?_
  repeat' (first 
   | (with_reducible refine Fresh.intro fun b hb => ?_) <;> (try simp -dsimp -implicitDefEqProofs [*] at hb)
   | (with_reducible refine Rets.xcall (cs _ (by simp [*]) (by simp [*])) ?_)
   | (with_reducible refine Rets.xcall (cf _) ?_)
   | (with_reducible refine Rets.xcall (cr _) ?_)
   | (simp -dsimp -implicitDefEqProofs [*]))
  exact RetView.drop (st' := st) q5l ⟨rfl, rfl⟩
 have hRP := (q8a s).1 hR
 rw [hR] at cr
 have hj6 : s.judges.length ≤ 6 := by
  unfold y0p at hF
  simp only [Bool.and_eq_true, Bool.or_eq_true, decide_eq_true_eq] at hF
  have := hRP.many
  omega
 by_cases hmc : (marks.length : Int) = s.crits
 case neg =>
  clear hF hw hG hL hR l1 l2 l3 l4 hRP
  refine H.q0w.view q5d rfl rfl ?_
  repeat' (first 
   | (with_reducible refine Fresh.intro fun b hb => ?_) <;> (try simp -dsimp -implicitDefEqProofs [*] at hb)
   | (with_reducible refine Rets.xcall (cs _ (by simp [*]) (by simp [*])) ?_)
   | (with_reducible refine Rets.xcall (cf _) ?_)
   | (with_reducible refine Rets.xcall (cr _) ?_)
   | (simp -dsimp -implicitDefEqProofs [*]))
  exact RetView.drop (st' := st) q5l ⟨rfl, rfl⟩
 have hwj : IntKind.i64.wrap ((s.judges.length : Int) - 1) = (s.judges.length : Int) - 1 := q5c (by omega) (by omega)
 by_cases hnd : (s.judges.length : Int) - 1 < s.need
 ·clear hF hw hG hL hR l1 l2 l3 l4 hRP
  refine H.q0w.view q5d rfl rfl ?_
  repeat' (first 
   | (with_reducible refine Fresh.intro fun b hb => ?_) <;> (try simp -dsimp -implicitDefEqProofs [*] at hb)
   | (with_reducible refine Rets.xcall (cs _ (by simp [*]) (by simp [*])) ?_)
   | (with_reducible refine Rets.xcall (cf _) ?_)
   | (with_reducible refine Rets.xcall (cr _) ?_)
   | (simp -dsimp -implicitDefEqProofs [*]))
  exact RetView.drop (st' := st) q5l ⟨rfl, rfl⟩
 have p4 := fun st h0 h1 => z1q s hL st ⟨h0, h1⟩
 rw [hR, Bool.true_and, if_pos rfl] at p4
 by_cases hO : q72 s = true
 case neg =>
  rw [Bool.eq_false_iff.2 hO] at p4
  clear hF hw hG hL hR l1 l2 l3 l4 hRP hO
  refine H.q0w.view q5d rfl rfl ?_
  repeat' (first 
   | (with_reducible refine Fresh.intro fun b hb => ?_) <;> (try simp -dsimp -implicitDefEqProofs [*] at hb)
   | (with_reducible refine Rets.xcall (cs _ (by simp [*]) (by simp [*])) ?_)
   | (with_reducible refine Rets.xcall (cf _) ?_)
   | (with_reducible refine Rets.xcall (cr _) ?_)
   | (with_reducible refine Rets.xcall (p4 _ (by simp [*]) (by simp [*])) ?_)
   | (simp -dsimp -implicitDefEqProofs [*]))
  exact RetView.drop (st' := st) q5l ⟨rfl, rfl⟩
 rw [hO] at p4
 have hj1 := hRP.many
 obtain ⟨k, hk⟩ : ∃ k : Nat, jd.tmod s.judges.length = k := ⟨(jd.tmod s.judges.length).toNat, by
  have := Int.tmod_nonneg (s.judges.length : Int) hj0.1
  omega⟩
 have hkl : k < s.judges.length := by
  have := Int.tmod_lt_of_pos jd (b := (s.judges.length : Int)) (by omega)
  omega
 have hwk : IntKind.i64.wrap (k : Int) = k := q5c (by omega) (by omega)
 have hnz : ¬ s.judges = [] := fun e => by rw [e] at hj1; simp at hj1
 have hwjd : IntKind.i64.wrap jd = jd := q5c (by omega) (by omega)
 have g1 := q5u s.judges k hkl
 have E1 : ∀ h, (q59 s.judges)[k]'h = .int s.judges[k] := fun h => q7m s.judges k h
 have hwm : s.judges[k] ∈ s.judges := List.getElem_mem hkl
 have hwk2 : Hid (s.judges[k] = s.judges[k]) := ⟨rfl⟩
 obtain ⟨w, hwd⟩ : ∃ w, w = s.judges[k] := ⟨_, rfl⟩
 simp only [← hwd] at E1
 rw [← hwd] at g1 hwm
 have hwd2 : Hid (∀ (l : List Opd) (f : Int → Opd), l = s.judges.map f → ∀ h : k < l.length, l[k] = f w) := ⟨fun l f e h => by simp only [e, List.getElem_map, hwd]⟩
 clear hwd
 have cc := z1u s hL.sealed w
 have hci := z8x s w
 refine H.q0w.view q5d rfl rfl ?_
 repeat' (first 
  | (with_reducible refine Fresh.intro fun b hb => ?_) <;> (try simp -dsimp -implicitDefEqProofs [*] at hb)
  | (with_reducible refine Rets.xcall (cs _ (by simp [*]) (by simp [*])) ?_)
  | (with_reducible refine Rets.xcall (cf _) ?_)
  | (with_reducible refine Rets.xcall (cr _) ?_)
  | (with_reducible refine Rets.xcall (p4 _ (by simp [*]) (by simp [*])) ?_)
  | (with_reducible refine Rets.xcall (cc _) ?_)
  | (simp -dsimp -implicitDefEqProofs [*]))
 revert b; intro b1 hb1
 clear cs cf cr p4 cc
 refine q46 (fun n : Nat => [(2, q49 false marks), (3, .ptr b1 0), (9, .int k), (10, .int w), (11, .int (j3u s w)), (82, Shn.lst false s.shown), (83, .int s.shown.length), (84, .int n)]) (fun _ => (b1, .arr T.apiSession s.enc) :: st) (fun n => n ≤ s.shown.length ∧ Hid (∀ i (_ : i < n) (h : i < s.shown.length), decide (s.shown[i].j = w) = false)) (fun n => s.shown.length - n) 0 ⟨Nat.zero_le _, ⟨fun i h => absurd h (by omega)⟩⟩ (by simp) (.refl _) ?_
 rintro n ⟨hn, hI⟩
 by_cases hnl : n < s.shown.length
 ·have hwr := q47 (n := n) (by omega)
  have s0 := Shn.row_sub s.shown n hnl
  have hk0 : n * 34 < s.shown.length * 34 := by omega
  have hI2 : Hid (¬ s.shown[n].j = w → ∀ i (_ : i < n + 1) (h : i < s.shown.length), decide (s.shown[i].j = w) = false) := ⟨fun hne i hi h => if e : i = n then by subst e; exact decide_eq_false hne else hI.out i (by omega) h⟩
  obtain ⟨y, hy⟩ : ∃ y, y = s.shown[n] := ⟨_, rfl⟩
  rw [← hy] at s0 hI2
  clear hI hy hci hwd2 hF hw hG hL hR hRP hO
  by_cases e : y.j = w
  ·clear hI2
   repeat' (first 
    | (with_reducible refine Fresh.intro fun b hb => ?_) <;> (try simp -dsimp -implicitDefEqProofs [*] at hb)
    | (simp -dsimp -implicitDefEqProofs [*]))
   exact RetView.drop (st' := st) q5l ⟨rfl, rfl⟩
  ·have e2 := Hid.mk (hI2.out e)
   clear hI2
   repeat' (first 
    | (with_reducible refine Fresh.intro fun b hb => ?_) <;> (try simp -dsimp -implicitDefEqProofs [*] at hb)
    | (simp -dsimp -implicitDefEqProofs [*]))
   exact Next.intro (n + 1) ⟨by omega, e2⟩ (by omega) (by simp [*]) q5l
 obtain rfl : n = s.shown.length := by omega
 have hsh : q9f s w = none := y00 fun i hi => hI.out i hi hi
 clear hI hnl hn
 rcases hci with ⟨c1, c2⟩ | ⟨i, hi, c1, c2⟩
 ·rw [c2]
  clear c1 c2 hF hw hG hL hR hRP hO hwd2
  repeat' (simp -dsimp -implicitDefEqProofs [*])
  exact RetView.drop (st' := st) q5l ⟨rfl, rfl⟩
 rw [c2]
 obtain ⟨x, hx⟩ : ∃ x, x = s.sealed[i] := ⟨_, rfl⟩
 rw [← hx] at c1
 have gc : (Card.row s.sealed)[i * 36 + 3]? = some (q49 false x.c) := by rw [hx]; exact k0z Card.enc 36 Card.len s.sealed i 3 hi (by omega)
 have Ec : ∀ h, (Card.row s.sealed)[i * 36 + 3]'h = q49 false x.c := fun h => by have := List.getElem?_eq_getElem h; rw [gc] at this; exact (Option.some.inj this).symm
 have hki : i * 36 + 3 < s.sealed.length * 36 := by omega
 have hki0 : i * 36 < s.sealed.length * 36 := by omega
 have HF : Hid (FewH s w x marks) := ⟨⟨hRP, hO, hwm, c1, hsh, hmc, by omega⟩⟩
 have hnn24 : s.need ≤ 24 := by have := hRP.need; omega
 have hxc : x.c.length = marks.length := by have := HF.out.card.2.2.1; omega
 have hm64 : marks.length ≤ 64 := by have := hRP.crits; omega
 replace hL := Hid.mk hL
 have hkb := Hid.mk hRP.holder
 have hxc := Hid.mk hxc
 have hmc2 := Hid.mk hmc
 rename_i hxc0
 clear hx c1 c2 hsh hF hw hR hRP hO hwm hxc0 hmc
 repeat' (first 
  | (with_reducible refine Fresh.intro fun b hb => ?_) <;> (try simp -dsimp -implicitDefEqProofs [*] at hb)
  | (with_reducible refine And.intro (fun h => ?_) ?_) <;> (try (exfalso; omega))
  | (simp -dsimp -implicitDefEqProofs [*]))
 revert b; intro b2 hb2
 refine q46 (fun y : Nat × List Sh => [(2, q49 false marks), (3, .ptr b1 0), (9, .int k), (10, .int w), (11, .int i), (14, .ptr b2 0), (96, q49 false marks), (97, .int marks.length), (98, .int y.1)]) (fun y => (b2, .arr T.apiSession ({ s with keys := y.2 } : Ses).enc) :: (b1, .arr T.apiSession s.enc) :: st) (fun y => y.1 ≤ marks.length ∧ Hid (FewI s w x marks y.1 0 y.2 ∧ (∀ c, c < y.1 → ((z7t s w x marks c).length : Int) ≤ s.need) ∧ ∀ c (h : c < marks.length), c < y.1 → 0 ≤ marks[c] ∧ marks[c] ≤ 1000)) (fun y => marks.length - y.1) (0, s.keys) ⟨Nat.zero_le _, ⟨HF.out.zero, fun c h => absurd h (by simp), fun c _ h => absurd h (by simp)⟩⟩ (by simp) (.refl _) ?_
 rintro ⟨c, K⟩ ⟨hc, hI⟩
 replace hc : c ≤ marks.length := hc
 replace hI : Hid (FewI s w x marks c 0 K ∧ (∀ c', c' < c → ((z7t s w x marks c').length : Int) ≤ s.need) ∧ ∀ c' (h : c' < marks.length), c' < c → 0 ≤ marks[c'] ∧ marks[c'] ≤ 1000) := hI
 simp only
 by_cases hcl : c < marks.length
 case neg =>
  obtain rfl : c = marks.length := by omega
  obtain ⟨i1, i2, i3⟩ := hI.out
  have hdone := i1.done HF.out hmc2.out.symm i2 fun y hy => by
   obtain ⟨c', hc', rfl⟩ := List.mem_iff_getElem.1 hy
   exact i3 c' hc' hc'
  have hKl : K.length ≤ 1000 := by
   have := i1.len
   have h2 : marks.length * s.judges.length ≤ 64 * 6 := Nat.mul_le_mul (by omega) hj6
   omega
  have hZr := (q8a _).2 i1.r
  have p1 := fun st h0 h1 => k4u _ (z80 hL.out hKl) hKl st ⟨h0, h1⟩
  rw [hZr, if_pos rfl] at p1
  have e1 : k34 { s with keys := K } = s.judges.map (q8x { s with keys := K }) := by unfold k34; rw [if_pos hZr]
  have ho : (k34 { s with keys := K }).length = s.judges.length := by rw [e1, List.length_map]
  have hno : k < (k34 { s with keys := K }).length := by rw [ho]; exact hkl
  have d1 := Opd.row_one _ k hno
  rw [hwd2.out _ _ e1 hno, hdone] at d1
  have cS := k0r false true [⟨2, marks⟩] (by simp) (by simpa using hml)
  have eS : ∀ t, Opd.lst t [⟨2, marks⟩] = .list t [.int 2, q49 false marks] 1 := fun t => rfl
  rw [eS, eS] at cS
  have eD : (⟨2, marks⟩ : Opd).enc = [.int 2, q49 false marks] := rfl
  rw [eD] at d1
  have hwk1 := q47 (n := k) (by omega)
  obtain ⟨Z, hZ⟩ : ∃ Z, Z = ({ s with keys := K } : Ses) := ⟨_, rfl⟩
  rw [← hZ] at p1 ho hno d1 ⊢
  generalize k34 Z = O at *
  clear hZ e1 hdone i1 i2 i3 hI hwd2 hL hG HF hkb hxc hmc2 hKl hZr eS eD
  repeat' (first 
   | (with_reducible refine Rets.xcall (p1 _ (by simp [*]) (by simp [*])) ?_)
   | (with_reducible refine Rets.xcall (cS _) ?_)
   | (with_reducible refine Lit.imm ?_)
   | ((with_reducible refine q5p ?_ fun hk => ?_); omega)
   | (simp -dsimp -implicitDefEqProofs [*]))
  exact RetView.drop (st' := st) q5l ⟨rfl, rfl⟩
 have hwr := q47 (n := c) (by omega)
 have gm := q5u marks c hcl
 have Em : ∀ h, (q59 marks)[c]'h = .int marks[c] := fun h => q7m marks c h
 have hcx : c < x.c.length := by rw [hxc.out]; exact hcl
 have gx := q5u x.c c hcx
 have Ex : ∀ h, (q59 x.c)[c]'h = .int x.c[c] := fun h => q7m x.c c h
 have hkey : Hid (j8c x marks c = (x.c[c] + -marks[c]) % Qi) := ⟨by
  unfold j8c
  rw [List.getD_eq_getElem?_getD, List.getD_eq_getElem?_getD, List.getElem?_eq_getElem hcl, List.getElem?_eq_getElem hcx, Int.sub_eq_add_neg]
  rfl⟩
 have hmk : Hid (0 ≤ marks[c] ∧ marks[c] ≤ 1000 → ∀ c' (h : c' < marks.length), c' < c + 1 → 0 ≤ marks[c'] ∧ marks[c'] ≤ 1000) := ⟨fun h c' hc' h2 => if e : c' = c then by subst e; exact h else hI.out.2.2 c' hc' (by omega)⟩
 obtain ⟨m, hm⟩ : ∃ m, m = marks[c] := ⟨_, rfl⟩
 obtain ⟨u, hu⟩ : ∃ u, u = x.c[c] := ⟨_, rfl⟩
 rw [← hm] at gm hkey hmk
 rw [← hu] at gx hkey
 simp only [← hm] at Em
 simp only [← hu] at Ex
 clear hm hu
 obtain ⟨Z, hZ⟩ : ∃ Z, Z = ({ s with keys := K } : Ses) := ⟨_, rfl⟩
 rw [← hZ]
 by_cases m1 : m < 0
 ·clear hI hkey hmk hZ hwd2 hL hG HF hkb hxc hmc2
  repeat' (simp -dsimp -implicitDefEqProofs [*])
  exact RetView.drop (st' := st) q5l ⟨rfl, rfl⟩
 by_cases m2 : 1000 < m
 ·clear hI hkey hmk hZ hwd2 hL hG HF hkb hxc hmc2
  repeat' (simp -dsimp -implicitDefEqProofs [*])
  exact RetView.drop (st' := st) q5l ⟨rfl, rfl⟩
 have hm01 : 0 ≤ m ∧ m ≤ 1000 := by omega
 have wv : IntKind.i64.wrap (-m) = -m := q5c (by omega) (by omega)
 have cA := j00 u (-m)
 rw [← hkey.out] at cA
 have hmk2 := Hid.mk (hmk.out hm01)
 obtain ⟨key, hkeyd⟩ : ∃ key, key = j8c x marks c := ⟨_, rfl⟩
 rw [← hkeyd] at cA
 replace hkeyd := Hid.mk hkeyd
 replace hZ := Hid.mk hZ
 clear hkey hmk hm01
 repeat' (first 
  | (with_reducible refine Rets.xcall (cA _) ?_)
  | (with_reducible refine Lit.own (len := 1) fun b hb => ?_) <;> (try simp -dsimp -implicitDefEqProofs [*] at hb)
  | (simp -dsimp -implicitDefEqProofs [*]))
 revert b; intro b4 hb4
 clear cA
 obtain ⟨ST, hST⟩ : ∃ ST : q43, ST = (b2, .arr T.apiSession Z.enc) :: (b1, .arr T.apiSession s.enc) :: st := ⟨_, rfl⟩
 have hsb : q6h ST b4 := by rw [hST]; simp [*]
 have hs1 : q5m ST b1 = some (.arr T.apiSession s.enc) := by rw [hST]; simp [*]
 have hv : ∀ y : Nat × Option (Acc Pt), (y.1 ≤ s.keys.length ∧ accOk Pt.row 2 ST y.2 ∧ q5x y.2 = (⟨0, key⟩ : Pt) :: k3s w c (s.keys.take y.1)) → y.1 = s.keys.length → View ⟨[(2, q49 false marks), (3, .ptr b1 0), (9, .int k), (10, .int w), (11, .int i), (14, .ptr b2 0), (15, .int c), (17, k0t y.2), (96, q49 false marks), (97, .int marks.length), (98, .int c), (124, Sh.lst false s.keys), (125, .int s.keys.length), (126, .int y.1)], q6u T.apiPoint ST y.2⟩ ⟨[(2, q49 false marks), (3, .ptr b1 0), (9, .int k), (10, .int w), (11, .int i), (14, .ptr b2 0), (15, .int c), (17, Pt.lst false (q5x y.2)), (96, q49 false marks), (97, .int marks.length), (98, .int c), (124, Sh.lst false s.keys), (125, .int s.keys.length), (126, .int y.1)], ST⟩ := fun y h _ => View.acc rfl h.2.1 (.refl _) (by simp)
 rw [← hST]
 replace hST := Hid.mk hST
 refine z2t (fun y : Nat × Option (Acc Pt) => [(2, q49 false marks), (3, .ptr b1 0), (9, .int k), (10, .int w), (11, .int i), (14, .ptr b2 0), (15, .int c), (17, k0t y.2), (96, q49 false marks), (97, .int marks.length), (98, .int c), (124, Sh.lst false s.keys), (125, .int s.keys.length), (126, .int y.1)]) (fun y => q6u T.apiPoint ST y.2) (fun y => y.1 ≤ s.keys.length ∧ accOk Pt.row 2 ST y.2 ∧ q5x y.2 = (⟨0, key⟩ : Pt) :: k3s w c (s.keys.take y.1)) (fun y => s.keys.length - y.1) (fun y => y.1 = s.keys.length) (fun y => [(2, q49 false marks), (3, .ptr b1 0), (9, .int k), (10, .int w), (11, .int i), (14, .ptr b2 0), (15, .int c), (17, Pt.lst false (q5x y.2)), (96, q49 false marks), (97, .int marks.length), (98, .int c), (124, Sh.lst false s.keys), (125, .int s.keys.length), (126, .int y.1)]) (fun _ => ST) hv (0, some ⟨[⟨0, key⟩], b4, 1, Pt.row [⟨0, key⟩]⟩) ⟨Nat.zero_le _, ⟨⟨by simp, by simp, by simp, by rfl⟩, hsb⟩, rfl⟩ (by simp [k0t]) (.refl _) ?_ ?_
 ·rintro ⟨n, o⟩ ⟨hn, ho, hA⟩ hn2
  replace hn2 : n = s.keys.length := hn2
  replace hA : q5x o = (⟨0, key⟩ : Pt) :: k3s w c (s.keys.take n) := hA
  subst hn2
  rw [List.take_length] at hA
  have hA2 : q5x o = z7t s w x marks c := by rw [hA, hkeyd.out]; rfl
  simp only [hA2]
  have hpl : (z7t s w x marks c).length ≤ s.keys.length + 1 := by
   unfold z7t k3s
   rw [List.length_cons, List.length_map]
   have := List.length_filter_le (isK w c) s.keys
   omega
  have hgd := HF.out.good c
  have hvc : Hid (∀ h, j01 s w x marks c h = atV (q6y (z7t s w x marks c)) (h + 1)) := ⟨fun h => rfl⟩
  have hI3 : Hid (s.need ≥ (z7t s w x marks c).length → ∀ c', c' < c + 1 → ((z7t s w x marks c').length : Int) ≤ s.need) := ⟨fun h c' hc' => if e : c' = c then by subst e; exact h else hI.out.2.1 c' (by omega)⟩
  obtain ⟨L, hLd⟩ : ∃ L, L = z7t s w x marks c := ⟨_, rfl⟩
  rw [← hLd] at hpl hgd hvc hI3 ⊢
  have hS1 := hST.out
  subst hS1
  clear ho hA hA2 hn hv hLd hkeyd hs1 hsb hST
  clear hb4
  by_cases hLn : s.need < L.length
  ·clear hI3 hvc hgd hI hkb hmk2 hwd2 HF hL hxc hmc2 hG
   repeat' (simp -dsimp -implicitDefEqProofs [*])
   exact RetView.drop (st' := st) q5l ⟨rfl, rfl⟩
  have hI4 := Hid.mk (hI3.out (by omega))
  have hL24 : L.length ≤ 24 := by omega
  have c1 := fun z st => z8p false L hL24 hgd z st
  have eZ := hZ.out
  replace eZ := Hid.mk eZ
  repeat' (simp -dsimp -implicitDefEqProofs [*])
  clear hI3 hgd hpl hZ
  refine q46 (fun y : Nat × List Sh => [(2, q49 false marks), (3, .ptr b1 0), (9, .int k), (10, .int w), (11, .int i), (14, .ptr b2 0), (15, .int c), (17, Pt.lst false L), (96, q49 false marks), (97, .int marks.length), (98, .int c), (156, q49 false s.judges), (157, .int s.judges.length), (158, .int y.1)]) (fun y => (b2, .arr T.apiSession ({ s with keys := y.2 } : Ses).enc) :: (b1, .arr T.apiSession s.enc) :: st) (fun y => y.1 ≤ s.judges.length ∧ Hid (FewI s w x marks c y.1 y.2)) (fun y => s.judges.length - y.1) (0, K) ⟨Nat.zero_le _, ⟨hI.out.1⟩⟩ (by simp) (by rw [eZ.out]; exact .refl _) ?_
  clear eZ
  rintro ⟨q, K1⟩ ⟨hq, hJ⟩
  replace hq : q ≤ s.judges.length := hq
  replace hJ : Hid (FewI s w x marks c q K1) := hJ
  simp only
  by_cases hql : q < s.judges.length
  case neg =>
   obtain rfl : q = s.judges.length := by omega
   have hnx := Hid.mk hJ.out.next
   clear hJ c1 hvc hI
   repeat' (simp -dsimp -implicitDefEqProofs [*])
   exact Next.intro (c + 1, K1) ⟨by simp only; omega, ⟨hnx.out, hI4.out, hmk2.out⟩⟩ (by simp only; omega) (by simp [*]) q5l
  have hwq := q47 (n := q) (by omega)
  have gj := q5u s.judges q hql
  have Ej : ∀ h, (q59 s.judges)[q]'h = .int s.judges[q] := fun h => q7m s.judges q h
  have hbd := HF.out.r.judge _ (List.getElem_mem hql)
  have hsk : Hid (s.judges[q] = w → FewI s w x marks c (q + 1) K1) := ⟨fun e => hJ.out.skip hql e⟩
  have hst : Hid (s.judges[q] ≠ w → ∃ K', k0q { s with keys := K1 } ⟨w, c, s.judges[q], j01 s w x marks c s.judges[q]⟩ = .inl K' ∧ FewI s w x marks c (q + 1) K') := ⟨fun e => hJ.out.step HF.out (by have := hmc2.out; omega) hql e⟩
  obtain ⟨h, hh⟩ : ∃ h, h = s.judges[q] := ⟨_, rfl⟩
  rw [← hh] at gj hbd hsk hst
  simp only [← hh] at Ej
  clear hh
  by_cases hhw : h = w
  ·have e := Hid.mk (hsk.out hhw)
   clear hsk hst hJ c1 hvc hI hI4 hmk2 hkb HF
   repeat' (simp -dsimp -implicitDefEqProofs [*])
   exact Next.intro (q + 1, K1) ⟨by simp only; omega, e⟩ (by simp only; omega) (by simp [*]) q5l
  ·obtain ⟨K2, e1, e2⟩ := hst.out hhw
   have hw1 : IntKind.i64.wrap (h + 1) = h + 1 := q5c (by omega) (by omega)
   have c2 := c1 (h + 1)
   rw [← hvc.out h] at c2
   have hKl : K1.length ≤ 1000 := by
    have := hJ.out.len
    have h2 : c * s.judges.length ≤ 64 * 6 := Nat.mul_le_mul (by omega) hj6
    omega
   have hdo := j6w hJ.out.r e1
   have cD := fun st h0 h1 => j38 (z80 hL.out hKl) (show ([] : List Int).length ≤ 100000 by decide) (show ([] : List Int).length ≤ 100000 by decide) ⟨Nat.le_trans l2 (by omega), hKl, Nat.le_trans l4 (by omega)⟩ hdo st h0 h1 (y0z w c h (j01 s w x marks c h))
   simp only [List.cons_append, List.nil_append] at cD
   obtain ⟨v, hvv⟩ : ∃ v, v = j01 s w x marks c h := ⟨_, rfl⟩
   rw [← hvv] at c2 cD
   obtain ⟨Z1, hZ1⟩ : ∃ Z1, Z1 = ({ s with keys := K1 } : Ses) := ⟨_, rfl⟩
   obtain ⟨Z2, hZ2⟩ : ∃ Z2, Z2 = ({ s with keys := K2 } : Ses) := ⟨_, rfl⟩
   have cD2 : ∀ st, q5m st 0 = some (.arr T.t8uint32 Sha.start.row) → q5m st 1 = some q8z → Rets P F.q2p [Z1.pv, _] st (.tuple [Z2.pv, .int 0]) := fun st h0 h1 => by rw [hZ1, hZ2]; exact cD st h0 h1
   rw [← hZ1]
   replace e2 := Hid.mk e2
   replace hZ2 := Hid.mk hZ2
   clear cD hdo hsk hst hJ c1 hvc hI hI4 hmk2 hkb HF e1 hvv hZ1
   repeat' (first 
    | (with_reducible refine Fresh.intro fun b hb => ?_) <;> (try simp -dsimp -implicitDefEqProofs [*] at hb)
    | (with_reducible refine Rets.xcall (c2 _) ?_)
    | (with_reducible refine Rets.xcall (cD2 _ (by simp [*]) (by simp [*])) ?_)
    | (simp -dsimp -implicitDefEqProofs [*]))
   exact Next.intro (q + 1, K2) ⟨by simp only; omega, e2⟩ (by simp only; omega) (by simp [*]) (by simp only [← hZ2.out]; exact q5l)
 ·rintro ⟨n, o⟩ ⟨hn, ho, hA⟩ hn2
  replace hn : n ≤ s.keys.length := hn
  replace ho : accOk Pt.row 2 ST o := ho
  replace hn2 : ¬ n = s.keys.length := hn2
  replace hA : q5x o = (⟨0, key⟩ : Pt) :: k3s w c (s.keys.take n) := hA
  simp only
  have kv := Hid.mk hv
  have hnl : n < s.keys.length := by omega
  have hwn := q47 (n := n) (by omega)
  have hi4 : n * 4 < s.keys.length * 4 := by omega
  have s0 := Sh.row_sub s.keys n hnl
  have hst := z5e (j := w) (c := c) hnl
  have hbx := hkb.out s.keys[n] (List.getElem_mem hnl)
  have hlen : (q5x o).length ≤ s.keys.length + 1 := by
   rw [hA]
   unfold k3s
   rw [List.length_cons, List.length_map]
   have := List.length_filter_le (isK w c) (s.keys.take n)
   rw [List.length_take] at this
   omega
  obtain ⟨y, hy⟩ : ∃ y, y = s.keys[n] := ⟨_, rfl⟩
  rw [← hy] at s0 hst hbx
  have hwh := q5c (n := y.h + 1) (by omega) (by omega)
  replace hA := Hid.mk hA
  have hst := Hid.mk hst
  rename_i hst0
  clear hst0 hv hy hn2 hI hmk2 hkb hwd2 HF hL hxc hmc2 hG
  by_cases e1 : y.o = w
  case neg =>
   have e := hst.out
   rw [if_neg (fun h => e1 h.1)] at e
   replace e := Hid.mk e
   clear hst
   repeat' (first 
    | (with_reducible refine Fresh.intro fun b hb => ?_) <;> (try simp -dsimp -implicitDefEqProofs [*] at hb)
    | (simp -dsimp -implicitDefEqProofs [*]))
   exact NextF.intro kv.out (n + 1, o) ⟨by simp only; omega, ho, by rw [e.out]; exact hA.out⟩ (by simp only; omega) (by simp [*]) q5l
  by_cases e2 : y.c = c
  case neg =>
   have e := hst.out
   rw [if_neg (fun h => e2 h.2)] at e
   replace e := Hid.mk e
   clear hst
   repeat' (first 
    | (with_reducible refine Fresh.intro fun b hb => ?_) <;> (try simp -dsimp -implicitDefEqProofs [*] at hb)
    | (simp -dsimp -implicitDefEqProofs [*]))
   exact NextF.intro kv.out (n + 1, o) ⟨by simp only; omega, ho, by rw [e.out]; exact hA.out⟩ (by simp only; omega) (by simp [*]) q5l
  have e := hst.out
  rw [if_pos ⟨e1, e2⟩] at e
  replace e := Hid.mk e
  clear hst
  repeat' (first 
   | (with_reducible refine Fresh.intro fun b hb => ?_) <;> (try simp -dsimp -implicitDefEqProofs [*] at hb)
   | (with_reducible refine Lit.imm ?_)
   | (simp -dsimp -implicitDefEqProofs [*]))
  refine xappend_box Pt.row_len Pt.row_append o ho hb [ptK y] (by simp [Pt.enc]) rfl (by omega) (by omega) fun o2 ho2 hl2 => ?_
  have k1 : Hid (q5x o2 = (⟨0, key⟩ : Pt) :: k3s w c (s.keys.take (n + 1))) := ⟨by rw [hl2, hA.out, e.out]; rfl⟩
  clear hl2 e hA
  repeat' (simp -dsimp -implicitDefEqProofs [*])
  exact NextF.intro kv.out (n + 1, o2) ⟨by simp only; omega, ho2.unbox, k1.out⟩ (by simp only; omega) (by simp [*]) (StLe.box o2 (accB_new hb).2)
end Go.Proofs.YtnooplpbpfiapaaGreatDoor
