/- SHA-256 by the program. -/
import Derived.Test.YtnooplpbpfiapaaGreatDoorS36E
namespace Go.Proofs.YtnooplpbpfiapaaGreatDoor
open Go.Pv Go.Pv.Sha
set_option maxRecDepth 100000
set_option maxHeartbeats 4000000
theorem k73 (b off cap : Nat) (T0 : TypeId) (A : List PV) (X : List (BitVec 8)) (C : List PV) (n : Nat) (hA : A.length = off) (hX : X.length ≤ 8) (st : q43) :
  Does P F.q3q [.own b off X.length cap, .val (.int .u64 (n : Int))] ((b, .arr T0 (A ++ (q44 X ++ C))) :: st) (.tuple []) ((b, .arr T0 (A ++ (q44 (q6i X.length n) ++ C))) :: st) := by
 refine H.q3q.view q5d rfl rfl ?_
 rw [← j2y A X C n, ← j51 A X C n]
 obtain ⟨k, hk⟩ : ∃ k, X.length = k := ⟨_, rfl⟩
 simp only [hk]
 have hk8 : k ≤ 8 := by omega
 repeat' (simp -dsimp -implicitDefEqProofs [*])
 refine q46 (fun i : Nat => [(0, .own b off k cap), (1, .val (.int .u64 (n : Int))), (6, .int (k : Nat)), (7, .int (i : Nat))]) (fun i => (b, .arr T0 (j07 A X C n i)) :: st) (fun i => i ≤ k) (fun i => k - i) 0 (by omega) (by simp) (.refl _) ?_
 intro i hi
 have hwi := q47 (n := i) (by omega)
 by_cases hil : i < k
 ·have hset := j53 A X C n (i := i) (by omega)
  have hlen := j52 A X C n (i := i) (by omega)
  rw [hA, hk] at hset
  rw [hA, hk] at hlen
  have hs := z8h n i (by omega)
  obtain ⟨j, hj⟩ : ∃ j, k - 1 - i = j := ⟨_, rfl⟩
  rw [hj] at hset
  have w1 : IntKind.i64.wrap ((k : Int) - 1) = (k : Int) - 1 := q5c (by omega) (by omega)
  have w2 : IntKind.i64.wrap ((k : Int) - 1 - i) = (j : Int) := by rw [q5c (by omega) (by omega)]; omega
  have w8 : IntKind.i64.wrap (8 * (i : Int)) = 8 * (i : Int) := q5c (by omega) (by omega)
  have n8 : (8 * (i : Int)).toNat = 8 * i := by omega
  have hjk : j < k := by omega
  generalize BitVec.ofNat 8 (n >>> (8 * i)) = x at *
  generalize hR1 : j07 A X C n (i + 1) = R1 at *
  generalize j07 A X C n i = R at *
  repeat' (first 
   | ((with_reducible refine q5p ?_ fun hk => ?_); omega)
   | (simp -dsimp -implicitDefEqProofs [*]))
  subst hR1
  exact Next.intro (i + 1) (by omega) (by omega) (by simp) q5l
 ·have e : i = k := by omega
  subst e
  clear hi hwi hil
  repeat' (simp -dsimp -implicitDefEqProofs [*])
  exact .same ⟨rfl, rfl⟩
theorem z8k (t : Bool) (l : List (BitVec 8)) (hl : l.length ≤ 1000000) (st : q43) (h0 : q5m st 0 = some (.arr T.t8uint32 Sha.start.row)) (h1 : q5m st 1 = some q8z) : Rets P F.q39 [q5h t l] st (.agg (q44 (sum l))) := by
 refine H.q39.pure q5d rfl rfl ?_
 have hen : k2e P F.q01 := H.q01.enters
 have hsr : Sha.start.row.length = 8 := rfl
 have hall8 : ∀ L : List PV, L.length = 8 → q48 L 0 Sha.start.row = Sha.start.row := fun L h => q53 _ _ (by rw [h]; rfl)
 have hPl := k6i l
 have hll : l.length ≤ 1000000 := hl
 obtain ⟨N, r, hNr, hr64⟩ : ∃ N r, l.length = 64 * N + r ∧ r < 64 := ⟨l.length / 64, l.length % 64, by omega, by omega⟩
 have hsum : sum l = (q6d Sha.start (q5r l) ((q5r l).length / 64)).bytes := rfl
 have hsub0 := sub_all hsr
 repeat' (first 
  | (with_reducible refine Fresh.intro fun b hb => ?_) <;> (try simp -dsimp -implicitDefEqProofs [*] at hb)
  | (simp -dsimp -implicitDefEqProofs [*]))
 revert b
 intro p hp
 have hp0 := (q6a hp h0).1
 have hp1 := (q6a hp h1).1
 repeat' (first 
  | (with_reducible refine Fresh.intro fun b hb => ?_) <;> (try simp -dsimp -implicitDefEqProofs [*] at hb)
  | (simp -dsimp -implicitDefEqProofs [*]))
 revert b
 intro q hq
 have hq0 := (q6a hq.2 h0).1
 have hq1 := (q6a hq.2 h1).1
 have hres0 : q5m ((p, .arr T.apiDigest (q44 z32)) :: st) 1 = some q8z := by simp [hp1, h1]
 refine q46 (fun m : Nat => [(0, q5h t l), (2, .ptr p 0), (3, .ptr q 0), (4, .func (.func F.q01) [.ptr q 0] []), (5, .list t ((q44 l).drop (64 * m)) (l.length - 64 * m))]) (fun m => (q, .arr T.digeststate (q6d Sha.start (q5r l) m).row) :: (p, .arr T.apiDigest (q44 z32)) :: st) (fun m => m ≤ N) (fun m => N - m) 0 (by omega) (by simp) (.refl _) ?_
 intro m hm
 by_cases hml : m < N
 ·have hL : ∃ L : Nat, l.length - 64 * m = L ∧ 64 ≤ L ∧ L ≤ 1000000 ∧ L - 64 = l.length - 64 * (m + 1) := ⟨_, rfl, by omega, by omega, by omega⟩
  obtain ⟨L, hL1, hL2, hL3, hL4⟩ := hL
  have hch : ((q5r l).drop (64 * m)).take 64 = (l.drop (64 * m)).take 64 := by
   unfold q5r
   rw [List.drop_append_of_le_length (by omega), List.take_append_of_le_length (by simp; omega)]
  have hcl : ((l.drop (64 * m)).take 64).length = 64 := by simp; omega
  have hb1 : q6d Sha.start (q5r l) (m + 1) = block (q6d Sha.start (q5r l) m) ((l.drop (64 * m)).take 64) := by rw [← hch]; rfl
  have habs := k4l q (q6d Sha.start (q5r l) m) false ((l.drop (64 * m)).take 64) hcl ((p, .arr T.apiDigest (q44 z32)) :: st) (by simp [hq]) hq1 hres0
  rw [← hb1] at habs
  have e1 : q5h false ((l.drop (64 * m)).take 64) = .list false (((q44 l).drop (64 * m)).take 64) 64 := by
   show PV.list false (q44 _) _ = _
   rw [hcl, q7z, q9r]
  rw [e1] at habs
  have hdd : ((q44 l).drop (64 * m)).drop 64 = (q44 l).drop (64 * (m + 1)) := by rw [List.drop_drop]; congr 1
  simp only [hL1]
  have hrl : ((q44 l).drop (64 * m)).length = L := by simp; omega
  clear e1 hb1 hch hcl
  generalize hS1 : q6d Sha.start (q5r l) (m + 1) = S1 at *
  generalize hR1 : (q44 l).drop (64 * (m + 1)) = R1 at *
  generalize (q44 l).drop (64 * m) = R at *
  generalize q6d Sha.start (q5r l) m = S0 at *
  repeat' (first 
   | (with_reducible refine Does.xcall (habs) ?_)
   | (with_reducible refine And.intro (fun h => ?_) (fun h => ?_)) <;> (try (exfalso; omega))
   | ((with_reducible refine q5p ?_ fun hk => ?_); omega)
   | (simp -dsimp -implicitDefEqProofs [*]))
  subst hS1
  subst hR1
  refine Next.intro (m + 1) (by omega) (by omega) ?_ q5l
  simp
  omega
 ·have e : m = N := by omega
  subst e
  have hL : l.length - 64 * m = r := by omega
  simp only [hL]
  have hrl : ((q44 l).drop (64 * m)).length = r := by simp; omega
  have hRl : (l.drop (64 * m)).length = r := by simp; omega
  have hfill := j2u (l.drop (64 * m)) r hRl hr64
  rw [← q7z] at hfill
  have hw1 : IntKind.u64.wrap (l.length : Int) = (l.length : Int) := q7q (by omega) (by omega)
  have hw2 : IntKind.u64.wrap ((l.length : Int) * 8) = (l.length : Int) * 8 := q7q (by omega) (by omega)
  have w56 : IntKind.i64.wrap 56 = 56 := rfl
  have w120 : IntKind.i64.wrap 120 = 120 := rfl
  have hz := j5z
  have hpd : (q5r l).drop (64 * m) = l.drop (64 * m) ++ (0x80#8 :: (List.replicate (q68 l.length) 0#8 ++ q6i 8 (l.length * 8))) := by
   unfold q5r
   rw [List.drop_append_of_le_length (by omega)]
  have hpm := z1f l
  have kz : Hid (q68 l.length = (119 - r) % 64) := ⟨by unfold q68; congr 2; omega⟩
  have hr64' : (r : Int) ≤ 128 := by omega
  have hz128 : (q44 y2l).length = 128 := by rw [q5i]; rfl
  generalize hV0 : q6d Sha.start (q5r l) m = V0 at *
  by_cases hr : 55 < (r : Int)
  ·have hzz : q68 l.length = 119 - r := by have := kz.out; omega
   rw [hzz] at hpd
   have hTl : ((q5r l).drop (64 * m)).length = 128 := by rw [hpd]; simp [hRl]; omega
   have hE0 : q44 (l.drop (64 * m) ++ 0x80#8 :: List.replicate (127 - r) 0#8) = q44 (l.drop (64 * m) ++ 0x80#8 :: List.replicate (119 - r) 0#8) ++ (q44 (List.replicate 8 0#8) ++ q44 (List.replicate 0 0#8)) := by
    rw [← q5b, ← q5b]
    congr 1
    rw [List.append_assoc, List.cons_append, ← List.append_assoc (List.replicate (119 - r) 0#8), List.replicate_append_replicate, List.replicate_append_replicate]
    congr 3
    omega
   have hput : ∀ b st, Does P F.q3q [.own b 120 8 8, .val (.int .u64 ((l.length : Int) * 8))] ((b, .arr T.uint8 (q44 (l.drop (64 * m) ++ 0x80#8 :: List.replicate (127 - r) 0#8))) :: st) (.tuple [])
     ((b, .arr T.uint8 (q44 ((q5r l).drop (64 * m)) ++ q44 (List.replicate 0 0#8))) :: st) := fun b st => by
    have h := k73 b 120 8 T.uint8 (q44 (l.drop (64 * m) ++ 0x80#8 :: List.replicate (119 - r) 0#8)) (List.replicate 8 0#8) (q44 (List.replicate 0 0#8)) (l.length * 8) (by rw [q5i, List.length_append, List.length_cons, List.length_replicate, hRl]; omega) (by simp) st
    rw [← hE0] at h
    have e2 : q44 (l.drop (64 * m) ++ 0x80#8 :: List.replicate (119 - r) 0#8) ++ (q44 (q6i 8 (l.length * 8)) ++ q44 (List.replicate 0 0#8)) = q44 ((q5r l).drop (64 * m)) ++ q44 (List.replicate 0 0#8) := by
     rw [hpd, ← List.append_assoc, ← q5b]
     simp
    have e3 : ((l.length * 8 : Nat) : Int) = (l.length : Int) * 8 := by omega
    rw [List.length_replicate, e2, e3] at h
    exact h
   clear hE0 hpd kz hzz
   generalize hTT : (q5r l).drop (64 * m) = TL at *
   generalize q44 (l.drop (64 * m) ++ 0x80#8 :: List.replicate (127 - r) 0#8) = E0 at *
   generalize hR : (q44 l).drop (64 * m) = R at *
   have kN : Hid (l.length = 64 * m + r) := ⟨hNr⟩
   clear hNr hL hPl hsum
   repeat' (first 
    | (with_reducible refine Fresh.intro fun b hb => ?_) <;> (try simp -dsimp -implicitDefEqProofs [*] at hb)
    | (with_reducible refine Does.xcall (hput _ _) ?_)
    | (with_reducible refine And.intro (fun h => ?_) (fun h => ?_)) <;> (try (exfalso; omega))
    | ((with_reducible refine q5p ?_ fun hk => ?_); omega)
    | (simp -dsimp -implicitDefEqProofs [-List.reduceReplicate, *]))
   have hfz : Frz b (.arr T.uint8 (q44 TL)) (.own b 0 128 128) (.list false (q44 TL) 128) := by
    have h := Frz.own (b := b) (o := .arr T.uint8 (q44 TL)) T.uint8 (q44 TL) 0 128 128 1 rfl (by omega) (by omega)
    rw [List.drop_zero] at h
    have e : (q44 TL).take (128 * 1) = q44 TL := by
     rw [List.take_of_length_le (by rw [q5i, hTl]; omega)]
    rw [e] at h
    exact h
   have hnum : (q5r l).length / 64 = m + 2 := by
    have h1 := congrArg List.length hTT
    rw [List.length_drop, hTl] at h1
    omega
   refine z1b (fun j : Nat => [(2, .ptr p 0), (3, .ptr q 0), (4, .func (.func F.q01) [.ptr q 0] []), (6, .list false ((q44 TL).drop (64 * j)) (128 - 64 * j))]) (fun j => (q, .arr T.digeststate (q6d Sha.start (q5r l) (m + j)).row) :: (p, .arr T.apiDigest (q44 z32)) :: st) (fun j => j ≤ 2) (fun j => 2 - j) 0 (by omega) ?_ ?_
   ·refine View.frz (b := b) (o := .arr T.uint8 (q44 TL)) (by simp [*]) ?_ ?_
    ·show StLe (_ :: (q, .arr T.digeststate (q6d Sha.start (q5r l) m).row) :: _) _
     rw [hV0]
     exact .refl _
    ·simp [Frz.refl]
     exact hfz
   clear hfz hput
   intro j hj
   by_cases hjl : j < 2
   ·have hLL : ∃ L : Nat, 128 - 64 * j = L ∧ 64 ≤ L ∧ L ≤ 128 ∧ L - 64 = 128 - 64 * (j + 1) := ⟨_, rfl, by omega, by omega, by omega⟩
    obtain ⟨L, hL1, hL2, hL3, hL4⟩ := hLL
    have hch : ((q5r l).drop (64 * (m + j))).take 64 = (TL.drop (64 * j)).take 64 := by
     rw [← hTT, List.drop_drop, show 64 * m + 64 * j = 64 * (m + j) by omega]
    have hcl : ((TL.drop (64 * j)).take 64).length = 64 := by simp; omega
    have hb1 : q6d Sha.start (q5r l) (m + (j + 1)) = block (q6d Sha.start (q5r l) (m + j)) ((TL.drop (64 * j)).take 64) := by rw [← hch]; rfl
    have habs := k4l q (q6d Sha.start (q5r l) (m + j)) false ((TL.drop (64 * j)).take 64) hcl ((p, .arr T.apiDigest (q44 z32)) :: st) (by simp [hq]) hq1 hres0
    rw [← hb1] at habs
    have e1 : q5h false ((TL.drop (64 * j)).take 64) = .list false (((q44 TL).drop (64 * j)).take 64) 64 := by
     show PV.list false (q44 _) _ = _
     rw [hcl, q7z, q9r]
    rw [e1] at habs
    have hdd : ((q44 TL).drop (64 * j)).drop 64 = (q44 TL).drop (64 * (j + 1)) := by rw [List.drop_drop]; congr 1
    simp only [hL1]
    have hrl2 : ((q44 TL).drop (64 * j)).length = L := by simp; omega
    clear e1 hb1 hch hcl
    generalize hS1 : q6d Sha.start (q5r l) (m + (j + 1)) = S1 at *
    generalize hR1 : (q44 TL).drop (64 * (j + 1)) = R1 at *
    generalize (q44 TL).drop (64 * j) = R0 at *
    generalize q6d Sha.start (q5r l) (m + j) = S0 at *
    repeat' (first 
     | (with_reducible refine Does.xcall (habs) ?_)
     | (with_reducible refine And.intro (fun h => ?_) (fun h => ?_)) <;> (try (exfalso; omega))
     | ((with_reducible refine q5p ?_ fun hk => ?_); omega)
     | (simp -dsimp -implicitDefEqProofs [*]))
    subst hS1
    subst hR1
    exact Next.intro (j + 1) (by omega) (by omega) (by simp) q5l
   ·have e : j = 2 := by omega
    subst e
    have hsum : sum l = (q6d Sha.start (q5r l) (m + 2)).bytes := by rw [← hnum]; rfl
    rw [hsum]
    clear hsum hTT hnum hV0 hj hjl
    generalize q6d Sha.start (q5r l) (m + 2) = V at *
    have hV8 : V.row.length = 8 := rfl
    have hsubV := sub_all hV8
    repeat' (simp -dsimp -implicitDefEqProofs [*])
    refine q46 (fun i : Nat => [(2, .ptr p 0), (53, .agg V.row), (54, .int (i : Nat))]) (fun i => (p, .arr T.apiDigest (q44 (dAt V (4 * i)))) :: st) (fun i => i ≤ 8) (fun i => 8 - i) 0 (by omega) (by simp) (.fresh (by simp [hq])) ?_
    intro i hi
    have hwi := q47 (n := i) (by omega)
    by_cases hil : i < 8
    ·have hput : Does P F.q3q [.own p (4 * i) 4 (32 - 4 * i), .val (.int .u64 (((V.words.getD i 0).toNat : Nat) : Int))] ((p, .arr T.apiDigest (q44 (dAt V (4 * i)))) :: st) (.tuple []) ((p, .arr T.apiDigest (q44 (dAt V (4 * (i + 1))))) :: st) := by
      have h := k73 p (4 * i) (32 - 4 * i) T.apiDigest (q44 (V.bytes.take (4 * i))) (List.replicate 4 0#8) (q44 (List.replicate (28 - 4 * i) 0#8)) (V.words.getD i 0).toNat (by simp; omega) (by simp) st
      rw [← z4y V hil, List.length_replicate, z1g V hil] at h
      exact h
     have hg := z2x V hil
     have hwx := k7e (V.words.getD i 0)
     have w4 : IntKind.i64.wrap (4 * (i : Int)) = 4 * (i : Int) := q5c (by omega) (by omega)
     have w44 : IntKind.i64.wrap (4 * (i : Int) + 4) = 4 * (i : Int) + 4 := q5c (by omega) (by omega)
     have n4 : (4 * (i : Int)).toNat = 4 * i := by omega
     have n44 : (4 * (i : Int) + 4).toNat = 4 * i + 4 := by omega
     have hdl : (q44 (dAt V (4 * i))).length = 32 := by rw [q5i, k86 V (by omega)]
     generalize hB1 : q44 (dAt V (4 * (i + 1))) = B1 at *
     generalize q44 (dAt V (4 * i)) = B0 at *
     generalize V.words.getD i 0 = x at *
     have hgE : ∀ h : i < V.row.length, V.row[i]'h = wv x := fun h => by rw [List.getElem?_eq_getElem h] at hg; exact Option.some.inj hg
     repeat' (first 
      | (with_reducible refine Does.xcall (hput) ?_)
      | (with_reducible refine And.intro (fun h => ?_) (fun h => ?_)) <;> (try (exfalso; omega))
      | ((with_reducible refine q5p ?_ fun hk => ?_); omega)
      | (simp -dsimp -implicitDefEqProofs [*]))
     subst hB1
     exact Next.intro (i + 1) (by omega) (by omega) (by simp) q5l
    ·have e : i = 8 := by omega
     subst e
     clear hi hwi hil
     have hdl : (q44 (dAt V (4 * 8))).length = 32 := by rw [q5i, k86 V (by omega)]
     have hend : q44 (dAt V 32) = q44 V.bytes := by rw [z6r]
     have hall : q48 (q44 V.bytes) 0 (q44 V.bytes) = q44 V.bytes := q53 _ _ rfl
     have hB : (q44 V.bytes).length = 32 := rfl
     have hBs := sub_all hB
     generalize q44 V.bytes = B at *
     repeat' (simp -dsimp -implicitDefEqProofs [*])
  ·have hzz : q68 l.length = 55 - r := by have := kz.out; omega
   rw [hzz] at hpd
   have hTl : ((q5r l).drop (64 * m)).length = 64 := by rw [hpd]; simp [hRl]; omega
   have hE0 : q44 (l.drop (64 * m) ++ 0x80#8 :: List.replicate (127 - r) 0#8) = q44 (l.drop (64 * m) ++ 0x80#8 :: List.replicate (55 - r) 0#8) ++ (q44 (List.replicate 8 0#8) ++ q44 (List.replicate 64 0#8)) := by
    rw [← q5b, ← q5b]
    congr 1
    rw [List.append_assoc, List.cons_append, ← List.append_assoc (List.replicate (55 - r) 0#8), List.replicate_append_replicate, List.replicate_append_replicate]
    congr 3
    omega
   have hput : ∀ b st, Does P F.q3q [.own b 56 8 72, .val (.int .u64 ((l.length : Int) * 8))] ((b, .arr T.uint8 (q44 (l.drop (64 * m) ++ 0x80#8 :: List.replicate (127 - r) 0#8))) :: st) (.tuple [])
     ((b, .arr T.uint8 (q44 ((q5r l).drop (64 * m)) ++ q44 (List.replicate 64 0#8))) :: st) := fun b st => by
    have h := k73 b 56 72 T.uint8 (q44 (l.drop (64 * m) ++ 0x80#8 :: List.replicate (55 - r) 0#8)) (List.replicate 8 0#8) (q44 (List.replicate 64 0#8)) (l.length * 8) (by rw [q5i, List.length_append, List.length_cons, List.length_replicate, hRl]; omega) (by simp) st
    rw [← hE0] at h
    have e2 : q44 (l.drop (64 * m) ++ 0x80#8 :: List.replicate (55 - r) 0#8) ++ (q44 (q6i 8 (l.length * 8)) ++ q44 (List.replicate 64 0#8)) = q44 ((q5r l).drop (64 * m)) ++ q44 (List.replicate 64 0#8) := by
     rw [hpd, ← List.append_assoc, ← q5b]
     simp
    have e3 : ((l.length * 8 : Nat) : Int) = (l.length : Int) * 8 := by omega
    rw [List.length_replicate, e2, e3] at h
    exact h
   clear hE0 hpd kz hzz
   generalize hTT : (q5r l).drop (64 * m) = TL at *
   generalize q44 (l.drop (64 * m) ++ 0x80#8 :: List.replicate (127 - r) 0#8) = E0 at *
   generalize hR : (q44 l).drop (64 * m) = R at *
   have kN : Hid (l.length = 64 * m + r) := ⟨hNr⟩
   clear hNr hL hPl hsum
   repeat' (first 
    | (with_reducible refine Fresh.intro fun b hb => ?_) <;> (try simp -dsimp -implicitDefEqProofs [*] at hb)
    | (with_reducible refine Does.xcall (hput _ _) ?_)
    | (with_reducible refine And.intro (fun h => ?_) (fun h => ?_)) <;> (try (exfalso; omega))
    | ((with_reducible refine q5p ?_ fun hk => ?_); omega)
    | (simp -dsimp -implicitDefEqProofs [-List.reduceReplicate, *]))
   have hfz : Frz b (.arr T.uint8 (q44 TL ++ q44 (List.replicate 64 0#8))) (.own b 0 64 128) (.list false (q44 TL) 64) := by
    have h := Frz.own (b := b) (o := .arr T.uint8 (q44 TL ++ q44 (List.replicate 64 0#8))) T.uint8 (q44 TL ++ q44 (List.replicate 64 0#8)) 0 64 128 1 rfl (by omega) (by omega)
    rw [List.drop_zero] at h
    have e : (q44 TL ++ q44 (List.replicate 64 0#8)).take (64 * 1) = q44 TL := by
     rw [List.take_append_of_le_length (by rw [q5i, hTl]; omega), List.take_of_length_le (by rw [q5i, hTl]; omega)]
    rw [e] at h
    exact h
   have hnum : (q5r l).length / 64 = m + 1 := by
    have h1 := congrArg List.length hTT
    rw [List.length_drop, hTl] at h1
    omega
   refine z1b (fun j : Nat => [(2, .ptr p 0), (3, .ptr q 0), (4, .func (.func F.q01) [.ptr q 0] []), (6, .list false ((q44 TL).drop (64 * j)) (64 - 64 * j))]) (fun j => (q, .arr T.digeststate (q6d Sha.start (q5r l) (m + j)).row) :: (p, .arr T.apiDigest (q44 z32)) :: st) (fun j => j ≤ 1) (fun j => 1 - j) 0 (by omega) ?_ ?_
   ·refine View.frz (b := b) (o := .arr T.uint8 (q44 TL ++ q44 (List.replicate 64 0#8))) (by simp [*]) ?_ ?_
    ·show StLe (_ :: (q, .arr T.digeststate (q6d Sha.start (q5r l) m).row) :: _) _
     rw [hV0]
     exact .refl _
    ·simp [Frz.refl]
     exact hfz
   clear hfz hput
   intro j hj
   by_cases hjl : j < 1
   ·have hLL : ∃ L : Nat, 64 - 64 * j = L ∧ 64 ≤ L ∧ L ≤ 128 ∧ L - 64 = 64 - 64 * (j + 1) := ⟨_, rfl, by omega, by omega, by omega⟩
    obtain ⟨L, hL1, hL2, hL3, hL4⟩ := hLL
    have hch : ((q5r l).drop (64 * (m + j))).take 64 = (TL.drop (64 * j)).take 64 := by
     rw [← hTT, List.drop_drop, show 64 * m + 64 * j = 64 * (m + j) by omega]
    have hcl : ((TL.drop (64 * j)).take 64).length = 64 := by simp; omega
    have hb1 : q6d Sha.start (q5r l) (m + (j + 1)) = block (q6d Sha.start (q5r l) (m + j)) ((TL.drop (64 * j)).take 64) := by rw [← hch]; rfl
    have habs := k4l q (q6d Sha.start (q5r l) (m + j)) false ((TL.drop (64 * j)).take 64) hcl ((p, .arr T.apiDigest (q44 z32)) :: st) (by simp [hq]) hq1 hres0
    rw [← hb1] at habs
    have e1 : q5h false ((TL.drop (64 * j)).take 64) = .list false (((q44 TL).drop (64 * j)).take 64) 64 := by
     show PV.list false (q44 _) _ = _
     rw [hcl, q7z, q9r]
    rw [e1] at habs
    have hdd : ((q44 TL).drop (64 * j)).drop 64 = (q44 TL).drop (64 * (j + 1)) := by rw [List.drop_drop]; congr 1
    simp only [hL1]
    have hrl2 : ((q44 TL).drop (64 * j)).length = L := by simp; omega
    clear e1 hb1 hch hcl
    generalize hS1 : q6d Sha.start (q5r l) (m + (j + 1)) = S1 at *
    generalize hR1 : (q44 TL).drop (64 * (j + 1)) = R1 at *
    generalize (q44 TL).drop (64 * j) = R0 at *
    generalize q6d Sha.start (q5r l) (m + j) = S0 at *
    repeat' (first 
     | (with_reducible refine Does.xcall (habs) ?_)
     | (with_reducible refine And.intro (fun h => ?_) (fun h => ?_)) <;> (try (exfalso; omega))
     | ((with_reducible refine q5p ?_ fun hk => ?_); omega)
     | (simp -dsimp -implicitDefEqProofs [*]))
    subst hS1
    subst hR1
    exact Next.intro (j + 1) (by omega) (by omega) (by simp) q5l
   ·have e : j = 1 := by omega
    subst e
    have hsum : sum l = (q6d Sha.start (q5r l) (m + 1)).bytes := by rw [← hnum]; rfl
    rw [hsum]
    clear hsum hTT hnum hV0 hj hjl
    generalize q6d Sha.start (q5r l) (m + 1) = V at *
    have hV8 : V.row.length = 8 := rfl
    have hsubV := sub_all hV8
    repeat' (simp -dsimp -implicitDefEqProofs [*])
    refine q46 (fun i : Nat => [(2, .ptr p 0), (53, .agg V.row), (54, .int (i : Nat))]) (fun i => (p, .arr T.apiDigest (q44 (dAt V (4 * i)))) :: st) (fun i => i ≤ 8) (fun i => 8 - i) 0 (by omega) (by simp) (.fresh (by simp [hq])) ?_
    intro i hi
    have hwi := q47 (n := i) (by omega)
    by_cases hil : i < 8
    ·have hput : Does P F.q3q [.own p (4 * i) 4 (32 - 4 * i), .val (.int .u64 (((V.words.getD i 0).toNat : Nat) : Int))] ((p, .arr T.apiDigest (q44 (dAt V (4 * i)))) :: st) (.tuple []) ((p, .arr T.apiDigest (q44 (dAt V (4 * (i + 1))))) :: st) := by
      have h := k73 p (4 * i) (32 - 4 * i) T.apiDigest (q44 (V.bytes.take (4 * i))) (List.replicate 4 0#8) (q44 (List.replicate (28 - 4 * i) 0#8)) (V.words.getD i 0).toNat (by simp; omega) (by simp) st
      rw [← z4y V hil, List.length_replicate, z1g V hil] at h
      exact h
     have hg := z2x V hil
     have hwx := k7e (V.words.getD i 0)
     have w4 : IntKind.i64.wrap (4 * (i : Int)) = 4 * (i : Int) := q5c (by omega) (by omega)
     have w44 : IntKind.i64.wrap (4 * (i : Int) + 4) = 4 * (i : Int) + 4 := q5c (by omega) (by omega)
     have n4 : (4 * (i : Int)).toNat = 4 * i := by omega
     have n44 : (4 * (i : Int) + 4).toNat = 4 * i + 4 := by omega
     have hdl : (q44 (dAt V (4 * i))).length = 32 := by rw [q5i, k86 V (by omega)]
     generalize hB1 : q44 (dAt V (4 * (i + 1))) = B1 at *
     generalize q44 (dAt V (4 * i)) = B0 at *
     generalize V.words.getD i 0 = x at *
     have hgE : ∀ h : i < V.row.length, V.row[i]'h = wv x := fun h => by rw [List.getElem?_eq_getElem h] at hg; exact Option.some.inj hg
     repeat' (first 
      | (with_reducible refine Does.xcall (hput) ?_)
      | (with_reducible refine And.intro (fun h => ?_) (fun h => ?_)) <;> (try (exfalso; omega))
      | ((with_reducible refine q5p ?_ fun hk => ?_); omega)
      | (simp -dsimp -implicitDefEqProofs [*]))
     subst hB1
     exact Next.intro (i + 1) (by omega) (by omega) (by simp) q5l
    ·have e : i = 8 := by omega
     subst e
     clear hi hwi hil
     have hdl : (q44 (dAt V (4 * 8))).length = 32 := by rw [q5i, k86 V (by omega)]
     have hend : q44 (dAt V 32) = q44 V.bytes := by rw [z6r]
     have hall : q48 (q44 V.bytes) 0 (q44 V.bytes) = q44 V.bytes := q53 _ _ rfl
     have hB : (q44 V.bytes).length = 32 := rfl
     have hBs := sub_all hB
     generalize q44 V.bytes = B at *
     repeat' (simp -dsimp -implicitDefEqProofs [*])
end Go.Proofs.YtnooplpbpfiapaaGreatDoor
