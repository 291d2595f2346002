/- OpeningKept. -/
import Derived.Test.YtnooplpbpfiapaaGreatDoorG36CF
import Derived.Test.YtnooplpbpfiapaaGreatDoorG36CA
namespace Go.Proofs.YtnooplpbpfiapaaGreatDoor
open Go.Pv
set_option maxRecDepth 100000
set_option maxHeartbeats 16000000
theorem Opd.row_drop (l : List Opd) (i : Nat) : (Opd.row l).drop (i * 2) = Opd.row (l.drop i) := k17 Opd.enc 2 Opd.len l i
theorem Opd.row_take (l : List Opd) (i : Nat) : (Opd.row l).take (i * 2) = Opd.row (l.take i) := k6b Opd.enc 2 Opd.len l i
theorem Opd.row_one (l : List Opd) (n : Nat) (h : n < l.length) : List.drop (n * 2) (List.take ((n + 1) * 2) (Opd.row l)) = l[n].enc := by
 rw [Opd.row_take, Opd.row_drop, List.take_succ_eq_append_getElem h, List.drop_left' (by rw [List.length_take]; omega)]
 simp [Opd.row]
theorem j2c (s : Ses) (hw : Wide s) (a : Act) (st : q5e) (hG : GL st) : Rets P F.q0z [s.pv, a.pv] st (.bool true) := by
 have hN := q6e hG.h0 hG.h1
 have h0 := hG.h0
 have h1 := hG.h1
 have cs := fun st h0 h1 => k5l st ⟨h0, h1⟩
 have cf := z0x s
 have ca := k8q a
 by_cases hF : j9n s = true
 case neg =>
  rw [Bool.eq_false_iff.2 hF] at cf
  clear hF hw hG ca
  refine H.q0z.view q5n rfl rfl ?_
  repeat' (first 
   | (with_reducible refine Fresh.intro fun b hb => ?_) <;> (try simp -dsimp -implicitDefEqProofs [*] at hb)
   | (with_reducible refine Rets.xcall (cs _ (by simp [*]) (by simp [*])) ?_)
   | (with_reducible refine Rets.xcall (cf _) ?_)
   | (simp -dsimp -implicitDefEqProofs [*]))
  exact RetView.drop (st' := st) q5p ⟨rfl, rfl⟩
 by_cases hA : y31 a = true
 case neg =>
  rw [hF] at cf
  rw [Bool.eq_false_iff.2 hA] at ca
  clear hF hA hw hG
  refine H.q0z.view q5n rfl rfl ?_
  repeat' (first 
   | (with_reducible refine Fresh.intro fun b hb => ?_) <;> (try simp -dsimp -implicitDefEqProofs [*] at hb)
   | (with_reducible refine Rets.xcall (cs _ (by simp [*]) (by simp [*])) ?_)
   | (with_reducible refine Rets.xcall (cf _) ?_)
   | (with_reducible refine Rets.xcall (ca _) ?_)
   | (simp -dsimp -implicitDefEqProofs [*]))
  exact RetView.drop (st' := st) q5p ⟨rfl, rfl⟩
 obtain ⟨hL, l1, l2, l3, l4⟩ := z80 hF hw.c hw.n
 obtain ⟨a1, a2⟩ := j0d hA
 rw [hF] at cf
 rw [hA] at ca
 have cr := q90 s hL
 by_cases hR : q6j s = true
 case neg =>
  rw [Bool.eq_false_iff.2 hR] at cr
  clear hF hA hw hG hL hR l1 l2 l3 l4 a1 a2
  refine H.q0z.view q5n rfl rfl ?_
  repeat' (first 
   | (with_reducible refine Fresh.intro fun b hb => ?_) <;> (try simp -dsimp -implicitDefEqProofs [*] at hb)
   | (with_reducible refine Rets.xcall (cs _ (by simp [*]) (by simp [*])) ?_)
   | (with_reducible refine Rets.xcall (cf _) ?_)
   | (with_reducible refine Rets.xcall (ca _) ?_)
   | (with_reducible refine Rets.xcall (cr _) ?_)
   | (simp -dsimp -implicitDefEqProofs [*]))
  exact RetView.drop (st' := st) q5p ⟨rfl, rfl⟩
 have hRP := (q61 s).1 hR
 rw [hR] at cr
 have p1 := fun st h0 h1 => k1e s hL (by omega) st ⟨h0, h1⟩
 have e1 : q71 s = s.judges.map (q6m s) := by unfold q71; rw [if_pos hR]
 have p2 := fun st h0 h1 => k2z s hL a a1 a2 ⟨by omega, by omega, by omega⟩ st ⟨h0, h1⟩
 have p4 := fun st h0 h1 => k0v s hL st ⟨h0, h1⟩
 rw [hR, Bool.true_and] at p4
 rw [hR] at p1
 rw [if_pos rfl] at p1 p4
 by_cases hE : doE s a = 0
 case neg =>
  have p3 := z3a
  rw [y6t hE] at p2
  have hll : ((q71 s).length : Int) = s.judges.length := by rw [e1, List.length_map]
  generalize q71 s = O at *
  generalize doE s a = E at *
  clear hF hA hw hG hL hR hRP l1 l2 l3 l4 a1 a2 e1 p4
  refine H.q0z.view q5n rfl rfl ?_
  repeat' (first 
   | (with_reducible refine Fresh.intro fun b hb => ?_) <;> (try simp -dsimp -implicitDefEqProofs [*] at hb)
   | (with_reducible refine Rets.xcall (cs _ (by simp [*]) (by simp [*])) ?_)
   | (with_reducible refine Rets.xcall (cf _) ?_)
   | (with_reducible refine Rets.xcall (ca _) ?_)
   | (with_reducible refine Rets.xcall (cr _) ?_)
   | (with_reducible refine Rets.xcall (p1 _ (by simp [*]) (by simp [*])) ?_)
   | (with_reducible refine Rets.xcall (p2 _ (by simp [*]) (by simp [*])) ?_)
   | (with_reducible refine Rets.xcall (p3 _) ?_)
   | (simp -dsimp -implicitDefEqProofs [*]))
  exact RetView.drop (st' := st) q5p ⟨rfl, rfl⟩
 have hx := (z3c (j0h hE)).2
 have hXL := z47 hL (by omega) (by omega) (by omega) a1 a2
 rw [hE] at p2
 obtain ⟨X, hX⟩ : ∃ X, X = doS s a := ⟨_, rfl⟩
 rw [← hX] at p2 hx hXL
 have hXk : (X).keys.length ≤ 1000 ∧ (X).sealed.length ≤ 1000 ∧ (X).shown.length ≤ 1000 := by
  have hx2 := hx
  clear hX p2 hXL
  cases hx2 with
  | dPass _ _ => exact ⟨Nat.le_trans l3 (by omega), Nat.le_trans l2 (by omega), Nat.le_trans l4 (by omega)⟩
  | dSeal _ hp => exact ⟨Nat.le_trans l3 (by omega), Nat.le_trans (k1p (k9f hp)) (by omega), Nat.le_trans l4 (by omega)⟩
  | dShare _ hp => exact ⟨Nat.le_trans (k1p (z6z hp)) (by omega), Nat.le_trans l2 (by omega), Nat.le_trans l4 (by omega)⟩
  | dShow _ hp => exact ⟨Nat.le_trans l3 (by omega), Nat.le_trans l2 (by omega), Nat.le_trans (k1p (j0k hp)) (by omega)⟩
 have hXR := hx.right hRP
 have hXb := (q61 X).2 hXR
 have q1 := fun st h0 h1 => k1e X hXL hXk.1 st ⟨h0, h1⟩
 have e2 : q71 X = s.judges.map (q6m X) := by unfold q71; rw [if_pos hXb, hx.judges]
 have q2 := fun st h0 h1 => k0v X hXL st ⟨h0, h1⟩
 have q3 := fun st h0 h1 => q9z X hXL st ⟨h0, h1⟩
 rw [hXb] at q1 q3
 rw [hXb, Bool.true_and] at q2
 rw [if_pos rfl] at q1 q2 q3
 have q4 := fun st h0 h1 => k2z X hXL a a1 a2 ⟨hXk.2.1, hXk.1, hXk.2.2⟩ st ⟨h0, h1⟩
 have q5 := hx.again hRP
 have q6 := k7u X hXL
 have cc := fun j => z28 s hL.sealed j
 have ht := hx.time
 have htn : ¬ X.time < s.time := by omega
 have ho : q6l s = true → q6l X = true := hx.open_
 have hk : Hid (∀ j, ((q6m s j).how = 1 ∨ (q6m s j).how = 3 ∧ q8e s j = none) → q6m X j = q6m s j) := ⟨fun j h => hx.kept hRP h⟩
 have hm : Hid (∀ j, (q6m s j).marks.length ≤ 9223372036854775807) := ⟨fun j => by have := z60 hL j; omega⟩
 have hll : (q71 s).length = s.judges.length := by rw [e1, List.length_map]
 have hlx : (q71 X).length = s.judges.length := by rw [e2, List.length_map]
 have hg1 : Hid (∀ n (h : n < s.judges.length) (h2 : n < (q71 s).length), (q71 s)[n] = q6m s s.judges[n]) := ⟨fun n h h2 => by simp only [e1, List.getElem_map]⟩
 have hg2 : Hid (∀ n (h : n < s.judges.length) (h2 : n < (q71 X).length), (q71 X)[n] = q6m X s.judges[n]) := ⟨fun n h h2 => by simp only [e2, List.getElem_map]⟩
 generalize q71 s = O at *
 generalize q71 X = O' at *
 have hjl := hL.judges
 clear hF hA hw hG hL hR hRP l1 l2 l3 l4 a1 a2 e1 e2 hE hX hXL hXk hXR hXb ht hx
 refine H.q0z.view q5n rfl rfl ?_
 obtain ⟨w, hw⟩ : ∃ w, w = q6l X := ⟨_, rfl⟩
 rw [← hw] at q2 q5 ho
 obtain ⟨u, hu⟩ : ∃ u, u = q6l s := ⟨_, rfl⟩
 rw [← hu] at p4 ho
 obtain ⟨E, hE⟩ : ∃ E, E = doE X a := ⟨_, rfl⟩
 rw [← hE] at q4 q5
 obtain ⟨Z, hZ⟩ : ∃ Z, Z = doS X a := ⟨_, rfl⟩
 rw [← hZ] at q4 q5
 replace q5 := Hid.mk q5
 clear hw hu hE hZ
 have c9 : u = true ∧ w = true ∨ u = false := by
  cases u with
  | true => exact .inl ⟨rfl, ho rfl⟩
  | false => exact .inr rfl
 clear ho
 rcases c9 with ⟨hu, hw⟩ | hu
 all_goals
  subst hu
  repeat' (first 
   | (with_reducible refine Fresh.intro fun b hb => ?_) <;> (try simp -dsimp -implicitDefEqProofs [*] at hb)
   | (with_reducible refine Rets.xcall (cs _ (by simp [*]) (by simp [*])) ?_)
   | (with_reducible refine Rets.xcall (cf _) ?_)
   | (with_reducible refine Rets.xcall (ca _) ?_)
   | (with_reducible refine Rets.xcall (cr _) ?_)
   | (with_reducible refine Rets.xcall (p1 _ (by simp [*]) (by simp [*])) ?_)
   | (with_reducible refine Rets.xcall (p2 _ (by simp [*]) (by simp [*])) ?_)
   | (with_reducible refine Rets.xcall (q1 _ (by simp [*]) (by simp [*])) ?_)
   | (with_reducible refine Rets.xcall (q2 _ (by simp [*]) (by simp [*])) ?_)
   | (with_reducible refine Rets.xcall (p4 _ (by simp [*]) (by simp [*])) ?_)
   | (with_reducible refine Rets.xcall (q3 _ (by simp [*]) (by simp [*])) ?_)
   | (simp -dsimp -implicitDefEqProofs [*]))
  revert b
  revert b
  revert b
  intro b1 hb1 b2 hb2 b3 hb3
  clear cs cf ca cr p1 p2 q1 q2 p4 q3
  refine q5h (fun n : Nat => [(2, .ptr b1 0), (3, .ptr b2 0), (5, Opd.lst false O), (7, .ptr b3 0), (9, Opd.lst false O'), (11, .bool w), (112, Opd.lst false O), (113, .int s.judges.length), (114, .int n)]) (fun _ => (b3, .arr T.apiSession X.enc) :: (b2, .arr T.apiAct a.enc) :: (b1, .arr T.apiSession s.enc) :: st) (fun n => n ≤ s.judges.length) (fun n => s.judges.length - n) 0 (Nat.zero_le _) (by simp [*]) (.refl _) ?_
  intro n hn
  by_cases hnl : n < s.judges.length
  ·have hwr := q5i (n := n) (by omega)
   have hno : n < O.length := by omega
   have hnx : n < O'.length := by omega
   have s0 := Opd.row_sub O n hno
   have hk0 : n * 2 < O.length * 2 := by omega
   have g1 := q57 s.judges n hnl
   have E1 : ∀ h, (q6i s.judges)[n]'h = .int s.judges[n] := fun h => q74 s.judges n h
   have y1 := hg1.out n hnl hno
   have y2 := hg2.out n hnl hnx
   have km := hm.out s.judges[n]
   have kk := hk.out s.judges[n]
   have cj := cc s.judges[n]
   have co := j0e s s.judges[n]
   obtain ⟨j, hj⟩ : ∃ j, j = s.judges[n] := ⟨_, rfl⟩
   simp only [← hj] at E1
   rw [← hj] at g1 y1 y2 km kk cj co
   obtain ⟨y, hy⟩ : ∃ y, y = q6m s j := ⟨_, rfl⟩
   rw [← hy] at y1 km kk
   rw [y1] at s0
   have d1 := Opd.row_one O n hno
   rw [y1] at d1
   have d2 : q6m X j = y → List.drop (n * 2) (List.take ((n + 1) * 2) (Opd.row O')) = y.enc := fun e => by
    rw [Opd.row_one O' n hnx, y2, e]
   have cS := k1d false false [y] (by simp) (by simpa using km)
   have eS : Opd.lst false [y] = .list false y.enc 1 := by simp [Opd.row]
   rw [eS] at cS
   replace d2 := Hid.mk d2
   replace kk := Hid.mk kk
   replace co := Hid.mk co
   clear hj hy y1 y2 hm hg1 hg2 hk cc eS km q4 q5 q6
   by_cases k1 : y.how = 1
   ·have d3 := d2.out (kk.out (.inl k1))
    clear d2 kk co cj
    repeat' (first 
     | (with_reducible refine Fresh.intro fun b hb => ?_) <;> (try simp -dsimp -implicitDefEqProofs [*] at hb)
     | (with_reducible refine Rets.xcall (cS _) ?_)
     | (with_reducible refine DrawLate.intro [] ?_)
     | ((with_reducible refine q5x ?_ fun hk => ?_); omega)
     | (simp -dsimp -implicitDefEqProofs [*]))
    exact Next.intro (n + 1) (by omega) (by omega) (by simp [*]) q5p
   by_cases k3 : y.how = 3
   ·rcases co.out with ⟨c1, c2⟩ | ⟨i, hi, c1, c2⟩
    ·have d3 := d2.out (kk.out (.inr ⟨k3, c1⟩))
     rw [c2] at cj
     clear d2 kk co c1 c2
     repeat' (first 
      | (with_reducible refine Fresh.intro fun b hb => ?_) <;> (try simp -dsimp -implicitDefEqProofs [*] at hb)
      | (with_reducible refine Rets.xcall (cj _) ?_)
      | (with_reducible refine Rets.xcall (cS _) ?_)
      | (with_reducible refine DrawLate.intro [] ?_)
      | ((with_reducible refine q5x ?_ fun hk => ?_); omega)
      | (simp -dsimp -implicitDefEqProofs [*]))
     exact Next.intro (n + 1) (by omega) (by omega) (by simp [*]) q5p
    ·rw [c2] at cj
     clear d2 kk co c1 c2 d1
     repeat' (first 
      | (with_reducible refine Fresh.intro fun b hb => ?_) <;> (try simp -dsimp -implicitDefEqProofs [*] at hb)
      | (with_reducible refine Rets.xcall (cj _) ?_)
      | (with_reducible refine DrawLate.intro [] ?_)
      | (with_reducible refine And.intro (fun h => ?_) ?_) <;> (try (exfalso; omega))
      | (simp -dsimp -implicitDefEqProofs [*]))
     exact Next.intro (n + 1) (by omega) (by omega) (by simp [*]) q5p
   ·clear d2 kk co d1 cj
    repeat' (first 
     | (with_reducible refine Fresh.intro fun b hb => ?_) <;> (try simp -dsimp -implicitDefEqProofs [*] at hb)
     | (with_reducible refine DrawLate.intro [] ?_)
     | (simp -dsimp -implicitDefEqProofs [*]))
    exact Next.intro (n + 1) (by omega) (by omega) (by simp [*]) q5p
  obtain rfl : n = s.judges.length := by omega
  clear hm hg1 hg2 hk cc
  by_cases hs : a.kind = 2 ∧ w = true
  ·have e := q5.out
   rw [if_pos hs] at e
   subst e
   obtain ⟨k2, kw⟩ := hs
   subst kw
   clear q5 q6
   repeat' (first 
    | (with_reducible refine Fresh.intro fun b hb => ?_) <;> (try simp -dsimp -implicitDefEqProofs [*] at hb)
    | (with_reducible refine Rets.xcall (q4 _ (by simp [*]) (by simp [*])) ?_)
    | (simp -dsimp -implicitDefEqProofs [*]))
   exact RetView.drop (st' := st) q5p ⟨rfl, rfl⟩
  ·have e := q5.out
   rw [if_neg hs] at e
   obtain ⟨e1, e2⟩ := e
   subst e1
   subst e2
   clear q5
   by_cases k2 : a.kind = 2
   ·first
     | (exfalso; refine hs ⟨k2, ?_⟩; assumption)
     | skip
    all_goals
     have kw : w = false := by
      cases w with
      | false => rfl
      | true => exact absurd ⟨k2, rfl⟩ hs
     clear hs
     repeat' (first 
      | (with_reducible refine Fresh.intro fun b hb => ?_) <;> (try simp -dsimp -implicitDefEqProofs [*] at hb)
      | (with_reducible refine Rets.xcall (q4 _ (by simp [*]) (by simp [*])) ?_)
      | (with_reducible refine Rets.xcall (q6 _) ?_)
      | (simp -dsimp -implicitDefEqProofs [*]))
     exact RetView.drop (st' := st) q5p ⟨rfl, rfl⟩
   ·clear hs
    repeat' (first 
     | (with_reducible refine Fresh.intro fun b hb => ?_) <;> (try simp -dsimp -implicitDefEqProofs [*] at hb)
     | (with_reducible refine Rets.xcall (q4 _ (by simp [*]) (by simp [*])) ?_)
     | (with_reducible refine Rets.xcall (q6 _) ?_)
     | (simp -dsimp -implicitDefEqProofs [*]))
    exact RetView.drop (st' := st) q5p ⟨rfl, rfl⟩
set_option maxRecDepth 100000
open Go.ChangeShapes Go.WideShapes Go.ChangeAt Go.RowKit Go.Pv
set_option maxRecDepth 100000 in
theorem k6y (os : Os) (started : os.Started) (H : Type) (enc : TypeId × Value → H) :
  ReturnsInHanded {} Tryz.checked os 5 .any (fun w args => (Rows.openingKeptSpec.pre enc Tryz.prog Tryz.f5 [] false w args ∧ laidMetH Tryz.prog z05 w) ∧ sizedMet enc Tryz.prog Tryz.f5 (OpenSpec.ofChange Rows.openingKeptSpec) false w args) (Rows.openingKeptSpec.post enc Tryz.prog Tryz.f5 false true false false) := by
 refine q6p (C := Tryz.checked) (X := fun w _ => laidMetH Tryz.prog z05 w) (fun _ _ _ hh h => h.of_heap hh) own started (by kernel_rfl) Tryz.func5
  (ChangeSpec.witness_shaped (enc := enc) (C := Tryz.checked) (os := os) (X := fun w _ => laidMetH Tryz.prog z05 w) false (World.doorLaid Tryz.prog 4000 os) #[.agg #[.int .i64 0, .int .i64 0, .int .i64 0, .slice none 0 0, .int .i64 0, .int .i64 0, .int .i64 0, .slice none 0 0, .slice none 0 0, .slice none 0 0], .agg #[.int .i64 0, .int .i64 0, .int .i64 0, .int .i64 0, .int .i64 0, .slice none 0 0, .int .u8 0, .int .u8 0, .int .u8 0, .int .u8 0, .int .u8 0, .int .u8 0, .int .u8 0, .int .u8 0, .int .u8 0, .int .u8 0, .int .u8 0, .int .u8 0, .int .u8 0, .int .u8 0, .int .u8 0, .int .u8 0, .int .u8 0, .int .u8 0, .int .u8 0, .int .u8 0, .int .u8 0, .int .u8 0, .int .u8 0, .int .u8 0, .int .u8 0, .int .u8 0, .int .u8 0, .int .u8 0, .int .u8 0, .int .u8 0, .int .u8 0, .int .u8 0, .int .i64 0, .int .i64 0, .int .i64 0, .int .i64 0, .int .i64 0, .slice none 0 0, .int .u8 0, .int .u8 0, .int .u8 0, .int .u8 0, .int .u8 0, .int .u8 0, .int .u8 0, .int .u8 0, .int .u8 0, .int .u8 0, .int .u8 0, .int .u8 0, .int .u8 0, .int .u8 0, .int .u8 0, .int .u8 0, .int .u8 0, .int .u8 0, .int .u8 0, .int .u8 0, .int .u8 0, .int .u8 0, .int .u8 0, .int .u8 0, .int .u8 0, .int .u8 0, .int .u8 0, .int .u8 0, .int .u8 0, .int .u8 0, .int .u8 0, .int .u8 0]] 8 rfl (World.shaped_of_RefB (by kernel_rfl) (by kernel_rfl)) (by kernel_rfl) (by kernel_rfl) (by kernel_rfl) (z48 os _)) ?_
 intro W base args ds gs before hsh hval0 hW _ hwt hL
 have hg := y96 hsh hL
 have hval : ∀ (j : Nat) t v, Tryz.f5.params[j]? = some t → args[j]? = some v → Value.okWide Tryz.prog W .any base t v := hval0
 have hW' := hW
 obtain ⟨p, q, hA0, hV, rfl, hfz, hnd⟩ := hW
 have hA : DataW.TrodAll enc Tryz.prog W 0 (fun _ => true) true Tryz.f5.params.toList args.toList ds p := hA0
 rw [Tryz.params5] at hA hval
 obtain ⟨v0, vs0, d0, ds0, p0, q0, hargs, rfl, rfl, h0, r0⟩ := trodAll_cons hA
 obtain ⟨v1, vs1, d1, ds1, p1, q1, rfl, rfl, rfl, h1, r1⟩ := trodAll_cons r0
 obtain ⟨rfl, rfl, rfl⟩ := trodAll_nil r1
 obtain rfl : args = #[v0, v1] := by cases args; simp_all
 obtain ⟨rfl, rfl⟩ := trodVars_none hV
 have k0 := h0
 have lt0 : ∀ x ∈ p0, x.block < W.heap.size := by obtain ⟨m, hm⟩ := k0; exact DataW.trod_lt m _ _ _ hm
 obtain ⟨x0_0, x0_1, w0⟩ := Opens.argS (j5p hg) Tryz.underlying27 (hval 0 27 v0 rfl rfl) h0
 have k1 := h1
 have lt1 : ∀ x ∈ p1, x.block < W.heap.size := by obtain ⟨m, hm⟩ := k1; exact DataW.trod_lt m _ _ _ hm
 obtain ⟨x1_0, x1_1, w1⟩ := Opens.argS (j9q hg) Tryz.underlying37 (hval 1 37 v1 rfl rfl) h1
 clear hA0 hval0
 refine ((_root_.Go.Proofs.YtnooplpbpfiapaaGreatDoor.H.q0z).bridgeG (gl := gl36) (j2c x0_0 x0_1 x1_0 _ ⟨j5l, j5m⟩) (w := W) hg (vs := [v0, v1]) ⟨w0, w1, trivial⟩).mono fun e W' ⟨he, bel⟩ => ?_
 subst he
 exact ⟨_, rfl, _, _, _, [], _, [], hW', trodAll_mk1 (shut_bool Tryz.underlying4 _), (trodAll_cons_mk (Go.RowKit.Below.trod k33 (by kernel_rfl) (of_decide_eq_true (by kernel_rfl)) k0 bel lt0) (trodAll_cons_mk (Go.RowKit.Below.trod k33 (by kernel_rfl) (of_decide_eq_true (by kernel_rfl)) k1 bel lt1) trodAll_mk0)), rfl, bel.frame _, fun h => by cases h⟩
theorem z07 : Rows.OpeningKeptSaid :=
 OpenClaim.holds_of_wide 5 Tryz.f5 rfl rfl rfl rfl rfl rfl rfl ⟨rfl, rfl, rfl, rfl, rfl⟩ rfl rfl rfl rfl rfl (by kernel_rfl) Tryz.func5 (by kernel_rfl)
  (of_decide_eq_true (by kernel_rfl)) (by unfold Func.isWrapper; first | (rw [if_pos (by decide +kernel)]; kernel_rfl) | (rw [if_neg (by decide +kernel)]; exact ⟨rfl, rfl⟩))
  (fun os started H enc _ => k6y os started H enc)
theorem openingKept_holds : Rows.OpeningKeptCardSaid :=
 Claim7.holds_tied_plain_at .later [] [.data, .data] true (true, "ffc4543b999d2e2c31cdf81055f5021fbefa10124ccad2d48d02d065e1def487") true
  z07 (fun _ h => by cases h) (by kernel_rfl) (fun _ h => by cases h) openingKept_row_tie rfl ⟨rfl, rfl⟩ (by kernel_rfl) rfl
  (fun f fn hf hfn => by
   obtain rfl : f = 5 := Option.some.inj ((show Tryz.prog.funcNamed "podium/podiumlaw36.OpeningKept" = some 5 by kernel_rfl).symm.trans hf) |>.symm
   obtain rfl : fn = Tryz.f5 := (Option.some.inj (Tryz.func5.symm.trans hfn)).symm
   exact ⟨by kernel_rfl, fun j t ht => by
    rw [Tryz.params5] at ht
    have hm : t ∈ [27, 37] := by simpa using Array.mem_of_getElem? ht
    have hall : ([27, 37].all fun u => !Tryz.prog.wantsStandIn u) = true := by kernel_rfl
    exact (show Tryz.prog.wantsStandIn t = false by simpa using List.all_eq_true.1 hall t hm)⟩)
  (by kernel_rfl)
end Go.Proofs.YtnooplpbpfiapaaGreatDoor
