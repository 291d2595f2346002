/- Keys out of shares, marks out of keys: plain. -/
import Derived.Test.YtnooplpbpfiapaaGreatDoorG36CA
import Derived.Test.YtnooplpbpfiapaaGreatDoorG36CF
namespace Go.Proofs.YtnooplpbpfiapaaGreatDoor
open Go.Pv Go.Pv.Ip
set_option maxRecDepth 100000
def q71 (c m : List Int) : List Int := List.zipWith (fun x y => (x - y) % Qi) c m
theorem j66 {x y : Int} (hx : 0 ≤ x) (hx2 : x ≤ 1073741788) (hy : 0 ≤ y) (hy2 : y ≤ 1000) : z3l x ((x - y) % Qi) = y := by
 unfold z3l QI Qi
 split <;> omega
theorem j4g {r e j : Int} {c m : List Int} (hc : chk r e j c = true) (hl : m.length = c.length) (hm : ∀ y ∈ m, 0 ≤ y ∧ y ≤ 1000) : q97 r e j c (q71 c m) = some m := by
 have hc2 : q61 c 1073741788 = true := by
  unfold chk at hc
  exact (Bool.and_eq_true_iff.1 hc).2
 have hb := q51 hc2
 have hn := k1w hc2
 have hkl : (q71 c m).length = c.length := by simp [q71, hl]
 have e : q66 c (q71 c m) = m := by
  unfold q66
  refine List.ext_getElem (by rw [List.length_zipWith, hkl]; omega) fun i h1 h2 => ?_
  have hi : i < c.length := by omega
  rw [List.getElem_zipWith]
  unfold q71
  rw [List.getElem_zipWith]
  have a := hb _ (List.getElem_mem hi)
  have b := hm _ (List.getElem_mem h2)
  exact j66 a.1 a.2 b.1 b.2
 unfold q97
 rw [e]
 have hw : ∀ {l : List Int} {most : Int}, 1 ≤ l.length → l.length ≤ 64 → (∀ x ∈ l, 0 ≤ x ∧ x ≤ most) → q61 l most = true := fun {l most} h1 h2 h3 => by
  unfold q61
  simp only [Bool.and_eq_true, decide_eq_true_eq, List.all_eq_true]
  exact ⟨⟨h1, h2⟩, fun x hx => by unfold wi; have := h3 x hx; simp [this.1, this.2]⟩
 rw [if_pos]
 unfold q6d
 simp only [Bool.and_eq_true, decide_eq_true_eq]
 refine ⟨⟨⟨hc, hw (by omega) (by omega) fun x hx => ?_⟩, hkl⟩, hw (by omega) (by omega) hm⟩
 unfold q71 at hx
 rw [← List.map_uncurry_zip_eq_zipWith] at hx
 obtain ⟨p, -, rfl⟩ := List.mem_map.1 hx
 have := k5z (p.1 - p.2)
 simp only [Function.uncurry]
 unfold Qi at *
 omega
open Go.Pv Go.Pv.Ip
set_option maxRecDepth 100000
set_option maxHeartbeats 16000000
theorem j09 (a b : Int) (st : q49) : Rets P F.q4w [.int a, .int b] st (.int ((a + b) % Qi)) := by
 have c := z3o a b true
 rw [← Int.add_emod] at c
 refine H.q4w.pure q5i rfl rfl ?_
 repeat' (first 
  | (with_reducible refine Rets.xcall (c _) ?_)
  | (with_reducible refine Lit.imm ?_)
  | (simp -dsimp -implicitDefEqProofs [*]))
theorem z5y (s : Ses) (hw : Wide s) (a : Act) (marks : List Int) (hml : marks.length ≤ 9223372036854775807) (st : q49) (hG : GL st) : Rets P F.q0r [s.pv, a.pv, q5f false marks] st (.bool true) := by
 have hN := q6a hG.h0 hG.h1
 have h0 := hG.h0
 have h1 := hG.h1
 have cs := fun st h0 h1 => z0b st ⟨h0, h1⟩
 have cf := z5r s
 have ca := z5q a
 by_cases hF : y0z s = true
 case neg =>
  rw [Bool.eq_false_iff.2 hF] at cf
  clear hF hw hG ca
  refine H.q0r.view q5i rfl rfl ?_
  repeat' (first 
   | (with_reducible refine Fresh.intro fun b hb => ?_) <;> (try simp -dsimp -implicitDefEqProofs [*] at hb)
   | (with_reducible refine Rets.xcall (cs _ (by simp [*]) (by simp [*])) ?_)
   | (with_reducible refine Rets.xcall (cf _) ?_)
   | (simp -dsimp -implicitDefEqProofs [*]))
  exact RetView.drop (st' := st) q5m ⟨rfl, rfl⟩
 by_cases hA : y5e a = true
 case neg =>
  rw [hF] at cf
  rw [Bool.eq_false_iff.2 hA] at ca
  clear hF hA hw hG
  refine H.q0r.view q5i rfl rfl ?_
  repeat' (first 
   | (with_reducible refine Fresh.intro fun b hb => ?_) <;> (try simp -dsimp -implicitDefEqProofs [*] at hb)
   | (with_reducible refine Rets.xcall (cs _ (by simp [*]) (by simp [*])) ?_)
   | (with_reducible refine Rets.xcall (cf _) ?_)
   | (with_reducible refine Rets.xcall (ca _) ?_)
   | (simp -dsimp -implicitDefEqProofs [*]))
  exact RetView.drop (st' := st) q5m ⟨rfl, rfl⟩
 obtain ⟨hL, l1, l2, l3, l4⟩ := j3z hF hw.c hw.n
 obtain ⟨a1, a2⟩ := j6r hA
 rw [hF] at cf
 rw [hA] at ca
 have cr := k97 s hL
 by_cases hR : q62 s = true
 case neg =>
  rw [Bool.eq_false_iff.2 hR] at cr
  clear hF hA hw hG hL hR l1 l2 l3 l4 a1 a2
  refine H.q0r.view q5i rfl rfl ?_
  repeat' (first 
   | (with_reducible refine Fresh.intro fun b hb => ?_) <;> (try simp -dsimp -implicitDefEqProofs [*] at hb)
   | (with_reducible refine Rets.xcall (cs _ (by simp [*]) (by simp [*])) ?_)
   | (with_reducible refine Rets.xcall (cf _) ?_)
   | (with_reducible refine Rets.xcall (ca _) ?_)
   | (with_reducible refine Rets.xcall (cr _) ?_)
   | (simp -dsimp -implicitDefEqProofs [*]))
  exact RetView.drop (st' := st) q5m ⟨rfl, rfl⟩
 have hRP := (q7r s).1 hR
 rw [hR] at cr
 have p1 := fun st h0 h1 => k48 s hL (by omega) st ⟨h0, h1⟩
 have e1 : k4h s = s.judges.map (q86 s) := by unfold k4h; rw [if_pos hR]
 have p4 := fun st h0 h1 => k32 s hL st ⟨h0, h1⟩
 rw [hR, Bool.true_and] at p4
 rw [hR] at p1
 rw [if_pos rfl] at p1 p4
 have hll : (k4h s).length = s.judges.length := by rw [e1, List.length_map]
 by_cases hO : q7h s = true
 ·rw [hO] at p4
  have ho2 : s.deadline ≤ s.time ∨ ¬ s.deadline ≤ s.time ∧ (s.sealed.length : Int) = s.judges.length := by
   unfold q7h at hO
   simp only [Bool.or_eq_true, decide_eq_true_eq] at hO
   omega
  generalize k4h s = O at *
  clear hF hA hw hG hL hR hRP l1 l2 l3 l4 a1 a2 e1 hO
  refine H.q0r.view q5i rfl rfl ?_
  rcases ho2 with k1 | ⟨k1, k2⟩
  ·repeat' (first 
    | (with_reducible refine Fresh.intro fun b hb => ?_) <;> (try simp -dsimp -implicitDefEqProofs [*] at hb)
    | (with_reducible refine Rets.xcall (cs _ (by simp [*]) (by simp [*])) ?_)
    | (with_reducible refine Rets.xcall (cf _) ?_)
    | (with_reducible refine Rets.xcall (ca _) ?_)
    | (with_reducible refine Rets.xcall (cr _) ?_)
    | (with_reducible refine Rets.xcall (p1 _ (by simp [*]) (by simp [*])) ?_)
    | (with_reducible refine Rets.xcall (p4 _ (by simp [*]) (by simp [*])) ?_)
    | (simp -dsimp -implicitDefEqProofs [*]))
   exact RetView.drop (st' := st) q5m ⟨rfl, rfl⟩
  ·repeat' (first 
    | (with_reducible refine Fresh.intro fun b hb => ?_) <;> (try simp -dsimp -implicitDefEqProofs [*] at hb)
    | (with_reducible refine Rets.xcall (cs _ (by simp [*]) (by simp [*])) ?_)
    | (with_reducible refine Rets.xcall (cf _) ?_)
    | (with_reducible refine Rets.xcall (ca _) ?_)
    | (with_reducible refine Rets.xcall (cr _) ?_)
    | (with_reducible refine Rets.xcall (p1 _ (by simp [*]) (by simp [*])) ?_)
    | (with_reducible refine Rets.xcall (p4 _ (by simp [*]) (by simp [*])) ?_)
    | (simp -dsimp -implicitDefEqProofs [*]))
   exact RetView.drop (st' := st) q5m ⟨rfl, rfl⟩
 have hO := Bool.eq_false_iff.2 hO
 rw [hO] at p4
 have hno : ¬ s.deadline ≤ s.time ∧ ¬ (s.sealed.length : Int) = s.judges.length := by
  have := hO
  unfold q7h at this
  simp only [Bool.or_eq_false_iff, decide_eq_false_iff_not] at this
  exact this
 obtain ⟨hn1, hn2⟩ := hno
 have hz : k4h s = List.replicate s.judges.length ⟨0, []⟩ := by
  rw [e1, List.eq_replicate_iff]
  refine ⟨List.length_map .., fun x hx => ?_⟩
  obtain ⟨j, -, rfl⟩ := List.mem_map.1 hx
  exact j05 hO
 have hg := hRP.gate.resolve_left (by simp [hO])
 have hk : s.keys.length = 0 := by rw [hg.1]; rfl
 have hk2 : s.shown.length = 0 := by rw [hg.2]; rfl
 have hwz : IntKind.i64.wrap ((s.keys.length : Int) + s.shown.length) = 0 := by rw [hk, hk2]; decide
 have d3 : doE s { a with kind := 3 } = 360 ∧ doS s { a with kind := 3 } = zeroSes := by
  have : doR s { a with kind := 3 } = .inr 360 := by
   unfold doR k0y
   rw [if_pos hR, if_neg (show ¬ (3 : Int) = 1 by decide), if_neg (show ¬ (3 : Int) = 2 by decide), if_pos (show (3 : Int) = 3 from rfl), if_neg (by simp [hO])]
  unfold doE doS
  rw [this]
  exact ⟨rfl, rfl⟩
 have d4 : doE s { a with kind := 4 } = 360 ∧ doS s { a with kind := 4 } = zeroSes := by
  have : doR s { a with kind := 4 } = .inr 360 := by
   unfold doR k35
   rw [if_pos hR, if_neg (show ¬ (4 : Int) = 1 by decide), if_neg (show ¬ (4 : Int) = 2 by decide), if_neg (show ¬ (4 : Int) = 3 by decide), if_pos (show (4 : Int) = 4 from rfl), if_neg (by simp [hO])]
  unfold doE doS
  rw [this]
  exact ⟨rfl, rfl⟩
 have p5 := fun st h0 h1 => k6f s hL { a with kind := 3 } a1 a2 ⟨by omega, by omega, by omega⟩ st ⟨h0, h1⟩
 have p6 := fun st h0 h1 => k6f s hL { a with kind := 4 } a1 a2 ⟨by omega, by omega, by omega⟩ st ⟨h0, h1⟩
 rw [d3.1, d3.2] at p5
 rw [d4.1, d4.2] at p6
 have q0 := j0y
 have hcards : Hid (∀ n (h : n < s.sealed.length), (s.sealed[n].c.length : Int) = s.crits ∧ chk s.sealed[n].r s.sealed[n].e s.sealed[n].j s.sealed[n].c = true ∧ s.sealed[n].c.length ≤ 64) := ⟨fun n h => by
  have h3 := hRP.card _ (List.getElem_mem h)
  unfold q72 at h3
  simp only [Bool.and_eq_true, decide_eq_true_eq] at h3
  have := hRP.crits
  exact ⟨h3.2, h3.1.1.1.1, by omega⟩⟩
 have hcr := hRP.crits
 obtain ⟨A3, hA3⟩ : ∃ A3, A3 = ({ a with kind := 3 } : Act) := ⟨_, rfl⟩
 obtain ⟨A4, hA4⟩ : ∃ A4, A4 = ({ a with kind := 4 } : Act) := ⟨_, rfl⟩
 have t3 : List.set a.enc 0 (.int 3) = A3.enc := by rw [hA3]; rfl
 have t4 : List.set A3.enc 0 (.int 4) = A4.enc := by rw [hA4, hA3]; rfl
 rw [← hA3] at p5
 rw [← hA4] at p6
 rw [hz] at p1 hll
 clear hA3 hA4 hF hA hw hG hL hR hRP l3 l4 a1 a2 e1 hO hg hk hk2 d3 d4 hz
 refine H.q0r.view q5i rfl rfl ?_
 repeat' (first 
  | (with_reducible refine Fresh.intro fun b hb => ?_) <;> (try simp -dsimp -implicitDefEqProofs [*] at hb)
  | (with_reducible refine Rets.xcall (cs _ (by simp [*]) (by simp [*])) ?_)
  | (with_reducible refine Rets.xcall (cf _) ?_)
  | (with_reducible refine Rets.xcall (ca _) ?_)
  | (with_reducible refine Rets.xcall (cr _) ?_)
  | (with_reducible refine Rets.xcall (p1 _ (by simp [*]) (by simp [*])) ?_)
  | (with_reducible refine Rets.xcall (p4 _ (by simp [*]) (by simp [*])) ?_)
  | (simp -dsimp -implicitDefEqProofs [*]))
 revert b
 revert b
 intro b1 hb1 b2 hb2
 clear cs cf ca cr p1 p4 hO
 have hOz : Hid (∀ n (h : n < s.judges.length) (h2 : n < (List.replicate s.judges.length (⟨0, []⟩ : Opd)).length), (List.replicate s.judges.length (⟨0, []⟩ : Opd))[n] = ⟨0, []⟩) := ⟨fun n h h2 => List.getElem_replicate _⟩
 generalize List.replicate s.judges.length (⟨0, []⟩ : Opd) = O at *
 refine q5c (fun n : Nat => [(2, q5f false marks), (3, .ptr b1 0), (4, .ptr b2 0), (84, Opd.lst false O), (85, .int s.judges.length), (86, .int n)]) (fun _ => (b2, .arr T.apiAct a.enc) :: (b1, .arr T.apiSession s.enc) :: st) (fun n => n ≤ s.judges.length) (fun n => s.judges.length - n) 0 (Nat.zero_le _) (by simp [*]) (.refl _) ?_
 intro n hn
 by_cases hnl : n < s.judges.length
 ·have hwr := q5d (n := n) (by omega)
  have hno : n < O.length := by omega
  have s0 := Opd.row_sub O n hno
  rw [hOz.out n hnl hno] at s0
  have hk0 : n * 2 < O.length * 2 := by omega
  have z0 : (⟨0, []⟩ : Opd).enc = [.int 0, .list false [] 0] := rfl
  rw [z0] at s0
  clear hOz hcards q0 p5 p6 t3 t4 z0
  repeat' (first 
   | (with_reducible refine Fresh.intro fun b hb => ?_) <;> (try simp -dsimp -implicitDefEqProofs [*] at hb)
   | (simp -dsimp -implicitDefEqProofs [*]))
  exact Next.intro (n + 1) (by omega) (by omega) (by simp [*]) q5m
 obtain rfl : n = s.judges.length := by omega
 clear hOz hnl hn hll
 repeat' (first 
  | (with_reducible refine Lit.imm ?_)
  | (simp -dsimp -implicitDefEqProofs [*]))
 refine q5c (fun n : Nat => [(2, q5f false marks), (3, .ptr b1 0), (4, .ptr b2 0), (100, .list true [.int 3, .int 4] 2), (101, .int 2), (102, .int n)]) (fun n => (b2, .arr T.apiAct (if n = 0 then a.enc else if n = 1 then A3.enc else A4.enc)) :: (b1, .arr T.apiSession s.enc) :: st) (fun n => n ≤ 2) (fun n => 2 - n) 0 (by omega) (by simp [*]) q5m ?_
 have w1 : IntKind.i64.wrap 1 = 1 := by decide
 have w2 : IntKind.i64.wrap 2 = 2 := by decide
 intro n hn
 rcases (show n = 0 ∨ n = 1 ∨ n = 2 by omega) with rfl | rfl | rfl
 ·clear hcards p6 t4
  repeat' (first 
   | (with_reducible refine Fresh.intro fun b hb => ?_) <;> (try simp -dsimp -implicitDefEqProofs [*] at hb)
   | (with_reducible refine Rets.xcall (p5 _ (by simp [*]) (by simp [*])) ?_)
   | (with_reducible refine Rets.xcall (q0 _) ?_)
   | (simp -dsimp -implicitDefEqProofs [*]))
  exact Next.intro 1 (by omega) (by omega) (by simp [w1]) q5m
 ·clear hcards p5 t3
  repeat' (first 
   | (with_reducible refine Fresh.intro fun b hb => ?_) <;> (try simp -dsimp -implicitDefEqProofs [*] at hb)
   | (with_reducible refine Rets.xcall (p6 _ (by simp [*]) (by simp [*])) ?_)
   | (with_reducible refine Rets.xcall (q0 _) ?_)
   | (simp -dsimp -implicitDefEqProofs [*]))
  exact Next.intro 2 (by omega) (by omega) (by simp [w2]) q5m
 clear p5 p6 t3 t4 q0 hn
 by_cases hmc : (marks.length : Int) = s.crits
 case neg =>
  clear hcards
  repeat' (simp -dsimp -implicitDefEqProofs [*])
  exact RetView.drop (st' := st) q5m ⟨rfl, rfl⟩
 repeat' (simp -dsimp -implicitDefEqProofs [*])
 refine q5c (fun n : Nat => [(2, q5f false marks), (3, .ptr b1 0), (146, q5f false marks), (147, .int marks.length), (148, .int n)]) (fun _ => (b1, .arr T.apiSession s.enc) :: st) (fun n => n ≤ marks.length ∧ Hid (∀ k (h : k < marks.length), k < n → 0 ≤ marks[k] ∧ marks[k] ≤ 1000)) (fun n => marks.length - n) 0 ⟨Nat.zero_le _, ⟨fun k _ h => absurd h (by omega)⟩⟩ (by simp [*]) q5m ?_
 rintro n ⟨hn, hI⟩
 by_cases hnl : n < marks.length
 ·have hwr := q5d (n := n) (by omega)
  have g1 := q52 marks n hnl
  have E1 : ∀ h, (q6c marks)[n]'h = .int marks[n] := fun h => q79 marks n h
  have hI2 : Hid (0 ≤ marks[n] ∧ marks[n] ≤ 1000 → ∀ k (h : k < marks.length), k < n + 1 → 0 ≤ marks[k] ∧ marks[k] ≤ 1000) := ⟨fun h k hk h2 => if e : k = n then by subst e; exact h else hI.out k hk (by omega)⟩
  obtain ⟨m, hm⟩ : ∃ m, m = marks[n] := ⟨_, rfl⟩
  rw [← hm] at g1 hI2
  simp only [← hm] at E1
  clear hm hI hcards
  by_cases m1 : m < 0
  ·clear hI2
   repeat' (first 
    | (with_reducible refine And.intro (fun h => ?_) (fun h => ?_)) <;> (try (exfalso; omega))
    | ((with_reducible refine q5u ?_ fun hk => ?_); omega)
    | (simp -dsimp -implicitDefEqProofs [*]))
   exact RetView.drop (st' := st) q5m ⟨rfl, rfl⟩
  by_cases m2 : 1000 < m
  ·clear hI2
   repeat' (first 
    | (with_reducible refine And.intro (fun h => ?_) (fun h => ?_)) <;> (try (exfalso; omega))
    | ((with_reducible refine q5u ?_ fun hk => ?_); omega)
    | (simp -dsimp -implicitDefEqProofs [*]))
   exact RetView.drop (st' := st) q5m ⟨rfl, rfl⟩
  have e := Hid.mk (hI2.out ⟨by omega, by omega⟩)
  have m2' : ¬ 1000 < m := m2
  clear hI2
  repeat' (first 
   | (with_reducible refine And.intro (fun h => ?_) (fun h => ?_)) <;> (try (exfalso; omega))
   | ((with_reducible refine q5u ?_ fun hk => ?_); omega)
   | (simp -dsimp -implicitDefEqProofs [*]))
  exact Next.intro (n + 1) ⟨by omega, e⟩ (by omega) (by simp [*]) q5m
 obtain rfl : n = marks.length := by omega
 have hm : Hid (∀ k (h : k < marks.length), 0 ≤ marks[k] ∧ marks[k] ≤ 1000) := ⟨fun k h => hI.out k h h⟩
 clear hI hnl hn
 repeat' (simp -dsimp -implicitDefEqProofs [*])
 refine q5c (fun n : Nat => [(2, q5f false marks), (160, Card.lst false s.sealed), (161, .int s.sealed.length), (162, .int n)]) (fun _ => st) (fun n => n ≤ s.sealed.length) (fun n => s.sealed.length - n) 0 (Nat.zero_le _) (by simp [*]) q5m ?_
 intro n hn
 by_cases hnl : n < s.sealed.length
 case neg =>
  clear hcards hm
  repeat' (simp -dsimp -implicitDefEqProofs [*])
  exact RetView.drop (st' := st) q5m ⟨rfl, rfl⟩
 have hwr := q5d (n := n) (by omega)
 have s0 := Card.row_sub s.sealed n hnl
 have hk0 : n * 36 < s.sealed.length * 36 := by omega
 obtain ⟨x1, x2, x3⟩ := hcards.out n hnl
 obtain ⟨x, hx⟩ : ∃ x, x = s.sealed[n] := ⟨_, rfl⟩
 rw [← hx] at s0 x1 x2 x3
 have hml2 : marks.length = x.c.length := by omega
 have hstr := j4g x2 hml2 (fun y hy => by
  obtain ⟨k, hk, rfl⟩ := List.mem_iff_getElem.1 hy
  exact hm.out k hk)
 have hkl : (q71 x.c marks).length = x.c.length := by simp [q71, hml2]
 have hkg : Hid (∀ i (h : i < x.c.length) (h2 : i < marks.length), (q71 x.c marks).take (i + 1) = (q71 x.c marks).take i ++ [(x.c[i] + -marks[i]) % Qi]) := ⟨fun i h h2 => by
  rw [List.take_succ_eq_append_getElem (by omega)]
  congr 2
  simp only [q71, List.getElem_zipWith, Int.sub_eq_add_neg]⟩
 have cS := fun st => z13 false false x.r x.e x.j x.c (q71 x.c marks) (by omega) (by omega) x.d.1 x.d.2 st
 rw [hstr] at cS
 have cS2 : ∀ st, Rets P F.q4d [x.pv, q5f false (q71 x.c marks)] st (.tuple [q5f false marks, .int 0]) := cS
 have cI := q8o false false marks marks (by omega)
 rw [decide_eq_true rfl] at cI
 replace hml2 := Hid.mk hml2
 replace hkl := Hid.mk hkl
 clear cS hstr x1 x2 hx hcards hmc
 repeat' (first 
  | (with_reducible refine Fresh.intro fun b hb => ?_) <;> (try simp -dsimp -implicitDefEqProofs [*] at hb)
  | (simp -dsimp -implicitDefEqProofs [*]))
 revert b; intro b3 hb3
 refine z27 (fun y : Nat × Option (Acc Int) => [(2, q5f false marks), (20, .ptr b3 0), (21, k1d y.2), (160, Card.lst false s.sealed), (161, .int s.sealed.length), (162, .int n), (167, q5f false x.c), (168, .int x.c.length), (169, .int y.1)]) (fun y => q64 T.int ((b3, .arr T.apiSealed x.enc) :: st) y.2) (fun y => y.1 ≤ x.c.length ∧ accOk q6c 1 ((b3, .arr T.apiSealed x.enc) :: st) y.2 ∧ q53 y.2 = (q71 x.c marks).take y.1) (fun y => x.c.length - y.1) (fun y => y.1 = x.c.length) (fun y : Nat × Option (Acc Int) => [(2, q5f false marks), (20, .ptr b3 0), (21, q5f false (q53 y.2)), (160, Card.lst false s.sealed), (161, .int s.sealed.length), (162, .int n), (167, q5f false x.c), (168, .int x.c.length), (169, .int y.1)]) (fun _ => (b3, .arr T.apiSealed x.enc) :: st) (fun y h _ => View.acc rfl h.2.1 (.refl _) (by simp)) (0, none) ⟨Nat.zero_le _, trivial, rfl⟩ (by simp) (.refl _) ?_ ?_
 ·rintro ⟨i, o⟩ ⟨hi, ho, hA⟩ hi2
  replace hi2 : i = x.c.length := hi2
  replace hA : q53 o = (q71 x.c marks).take i := hA
  rw [List.take_of_length_le (by rw [hkl.out]; omega)] at hA
  subst hi2
  simp only [hA]
  clear ho hA hi hkg hm
  generalize q71 x.c marks = K at *
  repeat' (first 
   | (with_reducible refine Rets.xcall (cS2 _) ?_)
   | (with_reducible refine Rets.xcall (cI _) ?_)
   | (simp -dsimp -implicitDefEqProofs [*]))
  exact Next.intro (n + 1) (by omega) (by omega) (by simp [*]) q5m
 ·rintro ⟨i, o⟩ ⟨hi, ho, hA⟩ hi2
  replace hi2 : ¬ i = x.c.length := hi2
  replace hi : i ≤ x.c.length := hi
  replace ho : accOk q6c 1 ((b3, .arr T.apiSealed x.enc) :: st) o := ho
  replace hA : q53 o = (q71 x.c marks).take i := hA
  simp only
  have hil : i < x.c.length := by omega
  have him : i < marks.length := by rw [hml2.out]; exact hil
  have hw2 := q5d (n := i) (by omega)
  have g1 := q52 x.c i hil
  have g2 := q52 marks i him
  have E1 : ∀ h, (q6c x.c)[i]'h = .int x.c[i] := fun h => q79 x.c i h
  have E2 : ∀ h, (q6c marks)[i]'h = .int marks[i] := fun h => q79 marks i h
  have hkk := hkg.out i hil him
  have hmm := hm.out i him
  obtain ⟨u, hu⟩ : ∃ u, u = x.c[i] := ⟨_, rfl⟩
  obtain ⟨v, hv⟩ : ∃ v, v = marks[i] := ⟨_, rfl⟩
  simp only [← hu] at E1
  simp only [← hv] at E2
  rw [← hu] at g1 hkk
  rw [← hv] at g2 hkk hmm
  have wv : IntKind.i64.wrap (-v) = -v := q5j (by omega) (by omega)
  have cA := j09 u (-v)
  obtain ⟨z, hz⟩ : ∃ z, z = (u + -v) % Qi := ⟨_, rfl⟩
  rw [← hz] at cA hkk
  rw [← hA] at hkk
  have hlen : (q53 o).length ≤ 64 := by rw [hA, List.length_take]; omega
  replace hkk := Hid.mk hkk
  clear hu hv hz hkg hm hA cS2 cI hi2
  repeat' (first 
   | (with_reducible refine Rets.xcall (cA _) ?_)
   | (with_reducible refine Lit.imm ?_)
   | (simp -dsimp -implicitDefEqProofs [*]))
  refine q9x k3y k0c o ho [z] (by simp [q6c]) rfl (by omega) (by omega) fun o2 ho2 hl2 => ?_
  have k1 : Hid (q53 o2 = (q71 x.c marks).take (i + 1)) := ⟨by rw [hkk.out, hl2]⟩
  clear hl2 hkk ho
  repeat' (simp -dsimp -implicitDefEqProofs [*])
  exact NextF.intro (fun y h _ => View.acc rfl h.2.1 (.refl _) (by simp)) (i + 1, o2) ⟨by simp only; omega, ho2, k1.out⟩ (by simp only; omega) (by simp) (.refl _)
set_option maxRecDepth 100000
open Go.ChangeShapes Go.WideShapes Go.ChangeAt Go.RowKit Go.Pv
set_option maxRecDepth 100000 in
theorem k36 (os : Os) (started : os.Started) (H : Type) (enc : TypeId × Value → H) :
  ReturnsInHanded {} Tryz.checked os 7 .any (fun w args => (Rows.openingClosedSpec.pre enc Tryz.prog Tryz.f7 [] false w args ∧ laidMetH Tryz.prog z5x w) ∧ sizedMet enc Tryz.prog Tryz.f7 (OpenSpec.ofChange Rows.openingClosedSpec) false w args) (Rows.openingClosedSpec.post enc Tryz.prog Tryz.f7 false true false false) := by
 refine q7f (C := Tryz.checked) (X := fun w _ => laidMetH Tryz.prog z5x w) (fun _ _ _ hh h => h.of_heap hh) own started (by kernel_rfl) Tryz.func7
  (ChangeSpec.witness_shaped (enc := enc) (C := Tryz.checked) (os := os) (X := fun w _ => laidMetH Tryz.prog z5x w) false (World.doorLaid Tryz.prog 4000 os) #[.agg #[.int .i64 0, .int .i64 0, .int .i64 0, .slice none 0 0, .int .i64 0, .int .i64 0, .int .i64 0, .slice none 0 0, .slice none 0 0, .slice none 0 0], .agg #[.int .i64 0, .int .i64 0, .int .i64 0, .int .i64 0, .int .i64 0, .slice none 0 0, .int .u8 0, .int .u8 0, .int .u8 0, .int .u8 0, .int .u8 0, .int .u8 0, .int .u8 0, .int .u8 0, .int .u8 0, .int .u8 0, .int .u8 0, .int .u8 0, .int .u8 0, .int .u8 0, .int .u8 0, .int .u8 0, .int .u8 0, .int .u8 0, .int .u8 0, .int .u8 0, .int .u8 0, .int .u8 0, .int .u8 0, .int .u8 0, .int .u8 0, .int .u8 0, .int .u8 0, .int .u8 0, .int .u8 0, .int .u8 0, .int .u8 0, .int .u8 0, .int .i64 0, .int .i64 0, .int .i64 0, .int .i64 0, .int .i64 0, .slice none 0 0, .int .u8 0, .int .u8 0, .int .u8 0, .int .u8 0, .int .u8 0, .int .u8 0, .int .u8 0, .int .u8 0, .int .u8 0, .int .u8 0, .int .u8 0, .int .u8 0, .int .u8 0, .int .u8 0, .int .u8 0, .int .u8 0, .int .u8 0, .int .u8 0, .int .u8 0, .int .u8 0, .int .u8 0, .int .u8 0, .int .u8 0, .int .u8 0, .int .u8 0, .int .u8 0, .int .u8 0, .int .u8 0, .int .u8 0, .int .u8 0, .int .u8 0, .int .u8 0], .slice none 0 0] 8 rfl (World.shaped_of_RefB (by kernel_rfl) (by kernel_rfl)) (by kernel_rfl) (by kernel_rfl) (by kernel_rfl) (z88 os _)) ?_
 intro W base args ds gs before hsh hval0 hW _ hwt hL
 have hg := in36 hsh hL
 have hval : ∀ (j : Nat) t v, Tryz.f7.params[j]? = some t → args[j]? = some v → Value.okWide Tryz.prog W .any base t v := hval0
 have hW' := hW
 obtain ⟨p, q, hA0, hV, rfl, hfz, hnd⟩ := hW
 have hA : DataW.TrodAll enc Tryz.prog W 0 (fun _ => true) true Tryz.f7.params.toList args.toList ds p := hA0
 rw [Tryz.params7] at hA hval
 obtain ⟨v0, vs0, d0, ds0, p0, q0, hargs, rfl, rfl, h0, r0⟩ := trodAll_cons hA
 obtain ⟨v1, vs1, d1, ds1, p1, q1, rfl, rfl, rfl, h1, r1⟩ := trodAll_cons r0
 obtain ⟨v2, vs2, d2, ds2, p2, q2, rfl, rfl, rfl, h2, r2⟩ := trodAll_cons r1
 obtain ⟨rfl, rfl, rfl⟩ := trodAll_nil r2
 obtain rfl : args = #[v0, v1, v2] := by cases args; simp_all
 obtain ⟨rfl, rfl⟩ := trodVars_none hV
 have k0 := h0
 have lt0 : ∀ x ∈ p0, x.block < W.heap.size := by obtain ⟨m, hm⟩ := k0; exact DataW.trod_lt m _ _ _ hm
 obtain ⟨x0_0, x0_1, w0⟩ := Opens.argS (j8m hg) Tryz.underlying27 (hval 0 27 v0 rfl rfl) h0
 have k1 := h1
 have lt1 : ∀ x ∈ p1, x.block < W.heap.size := by obtain ⟨m, hm⟩ := k1; exact DataW.trod_lt m _ _ _ hm
 obtain ⟨x1_0, x1_1, w1⟩ := Opens.argS (y5l hg) Tryz.underlying37 (hval 1 37 v1 rfl rfl) h1
 have k2 := h2
 have lt2 : ∀ x ∈ p2, x.block < W.heap.size := by obtain ⟨m, hm⟩ := k2; exact DataW.trod_lt m _ _ _ hm
 obtain ⟨x2_0, x2_1, w2⟩ := Opens.argL (z36 hg) Tryz.underlying22 (hval 2 22 v2 rfl rfl) h2
 clear hA0 hval0
 refine ((_root_.Go.Proofs.YtnooplpbpfiapaaGreatDoor.H.q0r).bridgeG (gl := gl36) (z5y x0_0 x0_1 x1_0 x2_0 (j64 w2) _ ⟨j8j, j8k⟩) (w := W) hg (vs := [v0, v1, v2]) ⟨w0, w1, w2, trivial⟩).mono fun e W' ⟨he, bel⟩ => ?_
 subst he
 exact ⟨_, rfl, _, _, _, [], _, [], hW', trodAll_mk1 (shut_bool Tryz.underlying4 _), (trodAll_cons_mk (Go.RowKit.Below.trod k7f (by kernel_rfl) (of_decide_eq_true (by kernel_rfl)) k0 bel lt0) (trodAll_cons_mk (Go.RowKit.Below.trod k7f (by kernel_rfl) (of_decide_eq_true (by kernel_rfl)) k1 bel lt1) (trodAll_cons_mk (Go.RowKit.Below.trod k7f (by kernel_rfl) (of_decide_eq_true (by kernel_rfl)) k2 bel lt2) trodAll_mk0))), rfl, bel.frame _, fun h => by cases h⟩
theorem k7g : Rows.OpeningClosedSaid :=
 OpenClaim.holds_of_wide 7 Tryz.f7 rfl rfl rfl rfl rfl rfl rfl ⟨rfl, rfl, rfl, rfl, rfl⟩ rfl rfl rfl rfl rfl (by kernel_rfl) Tryz.func7 (by kernel_rfl)
  (of_decide_eq_true (by kernel_rfl)) (by unfold Func.isWrapper; first | (rw [if_pos (by decide +kernel)]; kernel_rfl) | (rw [if_neg (by decide +kernel)]; exact ⟨rfl, rfl⟩))
  (fun os started H enc _ => k36 os started H enc)
theorem openingClosed_holds : Rows.OpeningClosedCardSaid :=
 Claim7.holds_tied_plain_at .later [] [.data, .data] true (true, "ffc4543b999d2e2c31cdf81055f5021fbefa10124ccad2d48d02d065e1def487") true
  k7g (fun _ h => by cases h) (by kernel_rfl) (fun _ h => by cases h) openingClosed_row_tie rfl ⟨rfl, rfl⟩ (by kernel_rfl) rfl
  (fun f fn hf hfn => by
   obtain rfl : f = 7 := Option.some.inj ((show Tryz.prog.funcNamed "podium/podiumlaw36.OpeningClosed" = some 7 by kernel_rfl).symm.trans hf) |>.symm
   obtain rfl : fn = Tryz.f7 := (Option.some.inj (Tryz.func7.symm.trans hfn)).symm
   exact ⟨by kernel_rfl, fun j t ht => by
    rw [Tryz.params7] at ht
    have hm : t ∈ [27, 37, 22] := by simpa using Array.mem_of_getElem? ht
    have hall : ([27, 37, 22].all fun u => !Tryz.prog.wantsStandIn u) = true := by kernel_rfl
    exact (show Tryz.prog.wantsStandIn t = false by simpa using List.all_eq_true.1 hall t hm)⟩)
  (by kernel_rfl)
end Go.Proofs.YtnooplpbpfiapaaGreatDoor
