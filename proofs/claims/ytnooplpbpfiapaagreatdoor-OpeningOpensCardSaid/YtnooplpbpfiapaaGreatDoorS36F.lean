/- SHA-256 by the program. -/
import Derived.Test.YtnooplpbpfiapaaGreatDoorS36E
namespace Go.Proofs.YtnooplpbpfiapaaGreatDoor
open Go.Pv Go.Pv.Sha
set_option maxRecDepth 100000
set_option maxHeartbeats 4000000
theorem k6e (b off cap : Nat) (T0 : TypeId) (A : List PV) (X : List (BitVec 8)) (C : List PV) (n : Nat) (hA : A.length = off) (hX : X.length ≤ 8) (st : q37) :
  Does P F.q2z [.own b off X.length cap, .val (.int .u64 (n : Int))] ((b, .arr T0 (A ++ (q38 X ++ C))) :: st) (.tuple []) ((b, .arr T0 (A ++ (q38 (q5w X.length n) ++ C))) :: st) := by
 refine H.q2z.view q4m rfl rfl ?_
 rw [← j01 A X C n, ← j36 A X C n]
 obtain ⟨k, hk⟩ : ∃ k, X.length = k := ⟨_, rfl⟩
 simp only [hk]
 have hk8 : k ≤ 8 := by omega
 repeat' (simp -dsimp -implicitDefEqProofs [*])
 refine q4e (fun i : Nat => [(0, .own b off k cap), (1, .val (.int .u64 (n : Int))), (6, .int (k : Nat)), (7, .int (i : Nat))]) (fun i => (b, .arr T0 (z9e A X C n i)) :: st) (fun i => i ≤ k) (fun i => k - i) 0 (by omega) (by simp) (.refl _) ?_
 intro i hi
 have hwi := q4d (n := i) (by omega)
 by_cases hil : i < k
 ·have hset := j38 A X C n (i := i) (by omega)
  have hlen := j37 A X C n (i := i) (by omega)
  rw [hA, hk] at hset
  rw [hA, hk] at hlen
  have hs := j33 n i (by omega)
  obtain ⟨j, hj⟩ : ∃ j, k - 1 - i = j := ⟨_, rfl⟩
  rw [hj] at hset
  have w1 : IntKind.i64.wrap ((k : Int) - 1) = (k : Int) - 1 := q4h (by omega) (by omega)
  have w2 : IntKind.i64.wrap ((k : Int) - 1 - i) = (j : Int) := by rw [q4h (by omega) (by omega)]; omega
  have w8 : IntKind.i64.wrap (8 * (i : Int)) = 8 * (i : Int) := q4h (by omega) (by omega)
  have n8 : (8 * (i : Int)).toNat = 8 * i := by omega
  have hjk : j < k := by omega
  generalize BitVec.ofNat 8 (n >>> (8 * i)) = x at *
  generalize hR1 : z9e A X C n (i + 1) = R1 at *
  generalize z9e A X C n i = R at *
  repeat' (first 
   | ((with_reducible refine q4t ?_ fun hk => ?_); omega)
   | (simp -dsimp -implicitDefEqProofs [*]))
  subst hR1
  exact Next.intro (i + 1) (by omega) (by omega) (by simp) q4p
 ·have e : i = k := by omega
  subst e
  clear hi hwi hil
  repeat' (simp -dsimp -implicitDefEqProofs [*])
  exact .same ⟨rfl, rfl⟩
theorem z6q (t : Bool) (l : List (BitVec 8)) (hl : l.length ≤ 1000000) (st : q37) (h0 : q4n st 0 = some (.arr T.t8uint32 Sha.start.row)) (h1 : q4n st 1 = some q6d) : Rets P F.q3e [q5b t l] st (.agg (q38 (sum l))) := by
 refine H.q3e.pure q4m rfl rfl ?_
 have hen : k0t P F.q0y := H.q0y.enters
 have hsr : Sha.start.row.length = 8 := rfl
 have hall8 : ∀ L : List PV, L.length = 8 → q4a L 0 Sha.start.row = Sha.start.row := fun L h => q5e _ _ (by rw [h]; rfl)
 have hPl := k9n l
 have hll : l.length ≤ 1000000 := hl
 obtain ⟨N, r, hNr, hr64⟩ : ∃ N r, l.length = 64 * N + r ∧ r < 64 := ⟨l.length / 64, l.length % 64, by omega, by omega⟩
 have hsum : sum l = (q5x Sha.start (q40 l) ((q40 l).length / 64)).bytes := rfl
 have hsub0 := sub_all hsr
 repeat' (first 
  | (with_reducible refine Fresh.intro fun b hb => ?_) <;> (try simp -dsimp -implicitDefEqProofs [*] at hb)
  | (simp -dsimp -implicitDefEqProofs [*]))
 revert b
 intro p hp
 have hp0 := (q48 hp h0).1
 have hp1 := (q48 hp h1).1
 repeat' (first 
  | (with_reducible refine Fresh.intro fun b hb => ?_) <;> (try simp -dsimp -implicitDefEqProofs [*] at hb)
  | (simp -dsimp -implicitDefEqProofs [*]))
 revert b
 intro q hq
 have hq0 := (q48 hq.2 h0).1
 have hq1 := (q48 hq.2 h1).1
 have hres0 : q4n ((p, .arr T.apiDigest (q38 z32)) :: st) 1 = some q6d := by simp [hp1, h1]
 refine q4e (fun m : Nat => [(0, q5b t l), (2, .ptr p 0), (3, .ptr q 0), (4, .func (.func F.q0y) [.ptr q 0] []), (5, .list t ((q38 l).drop (64 * m)) (l.length - 64 * m))]) (fun m => (q, .arr T.digeststate (q5x Sha.start (q40 l) m).row) :: (p, .arr T.apiDigest (q38 z32)) :: st) (fun m => m ≤ N) (fun m => N - m) 0 (by omega) (by simp) (.refl _) ?_
 intro m hm
 by_cases hml : m < N
 ·have hL : ∃ L : Nat, l.length - 64 * m = L ∧ 64 ≤ L ∧ L ≤ 1000000 ∧ L - 64 = l.length - 64 * (m + 1) := ⟨_, rfl, by omega, by omega, by omega⟩
  obtain ⟨L, hL1, hL2, hL3, hL4⟩ := hL
  have hch : ((q40 l).drop (64 * m)).take 64 = (l.drop (64 * m)).take 64 := by
   unfold q40
   rw [List.drop_append_of_le_length (by omega), List.take_append_of_le_length (by simp; omega)]
  have hcl : ((l.drop (64 * m)).take 64).length = 64 := by simp; omega
  have hb1 : q5x Sha.start (q40 l) (m + 1) = block (q5x Sha.start (q40 l) m) ((l.drop (64 * m)).take 64) := by rw [← hch]; rfl
  have habs := k2w q (q5x Sha.start (q40 l) m) false ((l.drop (64 * m)).take 64) hcl ((p, .arr T.apiDigest (q38 z32)) :: st) (by simp [hq]) hq1 hres0
  rw [← hb1] at habs
  have e1 : q5b false ((l.drop (64 * m)).take 64) = .list false (((q38 l).drop (64 * m)).take 64) 64 := by
   show PV.list false (q38 _) _ = _
   rw [hcl, q7g, q9j]
  rw [e1] at habs
  have hdd : ((q38 l).drop (64 * m)).drop 64 = (q38 l).drop (64 * (m + 1)) := by rw [List.drop_drop]; congr 1
  simp only [hL1]
  have hrl : ((q38 l).drop (64 * m)).length = L := by simp; omega
  clear e1 hb1 hch hcl
  generalize hS1 : q5x Sha.start (q40 l) (m + 1) = S1 at *
  generalize hR1 : (q38 l).drop (64 * (m + 1)) = R1 at *
  generalize (q38 l).drop (64 * m) = R at *
  generalize q5x Sha.start (q40 l) m = S0 at *
  repeat' (first 
   | (with_reducible refine Does.xcall (habs) ?_)
   | (with_reducible refine And.intro (fun h => ?_) (fun h => ?_)) <;> (try (exfalso; omega))
   | ((with_reducible refine q4t ?_ fun hk => ?_); omega)
   | (simp -dsimp -implicitDefEqProofs [*]))
  subst hS1
  subst hR1
  refine Next.intro (m + 1) (by omega) (by omega) ?_ q4p
  simp
  omega
 ·have e : m = N := by omega
  subst e
  have hL : l.length - 64 * m = r := by omega
  simp only [hL]
  have hrl : ((q38 l).drop (64 * m)).length = r := by simp; omega
  have hRl : (l.drop (64 * m)).length = r := by simp; omega
  have hfill := j0x (l.drop (64 * m)) r hRl hr64
  rw [← q7g] at hfill
  have hw1 : IntKind.u64.wrap (l.length : Int) = (l.length : Int) := q8k (by omega) (by omega)
  have hw2 : IntKind.u64.wrap ((l.length : Int) * 8) = (l.length : Int) * 8 := q8k (by omega) (by omega)
  have w56 : IntKind.i64.wrap 56 = 56 := rfl
  have w120 : IntKind.i64.wrap 120 = 120 := rfl
  have hz := j34
  have hpd : (q40 l).drop (64 * m) = l.drop (64 * m) ++ (0x80#8 :: (List.replicate (q88 l.length) 0#8 ++ q5w 8 (l.length * 8))) := by
   unfold q40
   rw [List.drop_append_of_le_length (by omega)]
  have hpm := z70 l
  have kz : Hid (q88 l.length = (119 - r) % 64) := ⟨by unfold q88; congr 2; omega⟩
  have hr64' : (r : Int) ≤ 128 := by omega
  have hz128 : (q38 y0t).length = 128 := by rw [q4j]; rfl
  generalize hV0 : q5x Sha.start (q40 l) m = V0 at *
  by_cases hr : 55 < (r : Int)
  ·have hzz : q88 l.length = 119 - r := by have := kz.out; omega
   rw [hzz] at hpd
   have hTl : ((q40 l).drop (64 * m)).length = 128 := by rw [hpd]; simp [hRl]; omega
   have hE0 : q38 (l.drop (64 * m) ++ 0x80#8 :: List.replicate (127 - r) 0#8) = q38 (l.drop (64 * m) ++ 0x80#8 :: List.replicate (119 - r) 0#8) ++ (q38 (List.replicate 8 0#8) ++ q38 (List.replicate 0 0#8)) := by
    rw [← q4k, ← q4k]
    congr 1
    rw [List.append_assoc, List.cons_append, ← List.append_assoc (List.replicate (119 - r) 0#8), List.replicate_append_replicate, List.replicate_append_replicate]
    congr 3
    omega
   have hput : ∀ b st, Does P F.q2z [.own b 120 8 8, .val (.int .u64 ((l.length : Int) * 8))] ((b, .arr T.uint8 (q38 (l.drop (64 * m) ++ 0x80#8 :: List.replicate (127 - r) 0#8))) :: st) (.tuple [])
     ((b, .arr T.uint8 (q38 ((q40 l).drop (64 * m)) ++ q38 (List.replicate 0 0#8))) :: st) := fun b st => by
    have h := k6e b 120 8 T.uint8 (q38 (l.drop (64 * m) ++ 0x80#8 :: List.replicate (119 - r) 0#8)) (List.replicate 8 0#8) (q38 (List.replicate 0 0#8)) (l.length * 8) (by rw [q4j, List.length_append, List.length_cons, List.length_replicate, hRl]; omega) (by simp) st
    rw [← hE0] at h
    have e2 : q38 (l.drop (64 * m) ++ 0x80#8 :: List.replicate (119 - r) 0#8) ++ (q38 (q5w 8 (l.length * 8)) ++ q38 (List.replicate 0 0#8)) = q38 ((q40 l).drop (64 * m)) ++ q38 (List.replicate 0 0#8) := by
     rw [hpd, ← List.append_assoc, ← q4k]
     simp
    have e3 : ((l.length * 8 : Nat) : Int) = (l.length : Int) * 8 := by omega
    rw [List.length_replicate, e2, e3] at h
    exact h
   clear hE0 hpd kz hzz
   generalize hTT : (q40 l).drop (64 * m) = TL at *
   generalize q38 (l.drop (64 * m) ++ 0x80#8 :: List.replicate (127 - r) 0#8) = E0 at *
   generalize hR : (q38 l).drop (64 * m) = R at *
   have kN : Hid (l.length = 64 * m + r) := ⟨hNr⟩
   clear hNr hL hPl hsum
   repeat' (first 
    | (with_reducible refine Fresh.intro fun b hb => ?_) <;> (try simp -dsimp -implicitDefEqProofs [*] at hb)
    | (with_reducible refine Does.xcall (hput _ _) ?_)
    | (with_reducible refine And.intro (fun h => ?_) (fun h => ?_)) <;> (try (exfalso; omega))
    | ((with_reducible refine q4t ?_ fun hk => ?_); omega)
    | (simp -dsimp -implicitDefEqProofs [-List.reduceReplicate, *]))
   have hfz : Frz b (.arr T.uint8 (q38 TL)) (.own b 0 128 128) (.list false (q38 TL) 128) := by
    have h := Frz.own (b := b) (o := .arr T.uint8 (q38 TL)) T.uint8 (q38 TL) 0 128 128 1 rfl (by omega) (by omega)
    rw [List.drop_zero] at h
    have e : (q38 TL).take (128 * 1) = q38 TL := by
     rw [List.take_of_length_le (by rw [q4j, hTl]; omega)]
    rw [e] at h
    exact h
   have hnum : (q40 l).length / 64 = m + 2 := by
    have h1 := congrArg List.length hTT
    rw [List.length_drop, hTl] at h1
    omega
   refine k9j (fun j : Nat => [(2, .ptr p 0), (3, .ptr q 0), (4, .func (.func F.q0y) [.ptr q 0] []), (6, .list false ((q38 TL).drop (64 * j)) (128 - 64 * j))]) (fun j => (q, .arr T.digeststate (q5x Sha.start (q40 l) (m + j)).row) :: (p, .arr T.apiDigest (q38 z32)) :: st) (fun j => j ≤ 2) (fun j => 2 - j) 0 (by omega) ?_ ?_
   ·refine View.frz (b := b) (o := .arr T.uint8 (q38 TL)) (by simp [*]) ?_ ?_
    ·show StLe (_ :: (q, .arr T.digeststate (q5x Sha.start (q40 l) m).row) :: _) _
     rw [hV0]
     exact .refl _
    ·simp [Frz.refl]
     exact hfz
   clear hfz hput
   intro j hj
   by_cases hjl : j < 2
   ·have hLL : ∃ L : Nat, 128 - 64 * j = L ∧ 64 ≤ L ∧ L ≤ 128 ∧ L - 64 = 128 - 64 * (j + 1) := ⟨_, rfl, by omega, by omega, by omega⟩
    obtain ⟨L, hL1, hL2, hL3, hL4⟩ := hLL
    have hch : ((q40 l).drop (64 * (m + j))).take 64 = (TL.drop (64 * j)).take 64 := by
     rw [← hTT, List.drop_drop, show 64 * m + 64 * j = 64 * (m + j) by omega]
    have hcl : ((TL.drop (64 * j)).take 64).length = 64 := by simp; omega
    have hb1 : q5x Sha.start (q40 l) (m + (j + 1)) = block (q5x Sha.start (q40 l) (m + j)) ((TL.drop (64 * j)).take 64) := by rw [← hch]; rfl
    have habs := k2w q (q5x Sha.start (q40 l) (m + j)) false ((TL.drop (64 * j)).take 64) hcl ((p, .arr T.apiDigest (q38 z32)) :: st) (by simp [hq]) hq1 hres0
    rw [← hb1] at habs
    have e1 : q5b false ((TL.drop (64 * j)).take 64) = .list false (((q38 TL).drop (64 * j)).take 64) 64 := by
     show PV.list false (q38 _) _ = _
     rw [hcl, q7g, q9j]
    rw [e1] at habs
    have hdd : ((q38 TL).drop (64 * j)).drop 64 = (q38 TL).drop (64 * (j + 1)) := by rw [List.drop_drop]; congr 1
    simp only [hL1]
    have hrl2 : ((q38 TL).drop (64 * j)).length = L := by simp; omega
    clear e1 hb1 hch hcl
    generalize hS1 : q5x Sha.start (q40 l) (m + (j + 1)) = S1 at *
    generalize hR1 : (q38 TL).drop (64 * (j + 1)) = R1 at *
    generalize (q38 TL).drop (64 * j) = R0 at *
    generalize q5x Sha.start (q40 l) (m + j) = S0 at *
    repeat' (first 
     | (with_reducible refine Does.xcall (habs) ?_)
     | (with_reducible refine And.intro (fun h => ?_) (fun h => ?_)) <;> (try (exfalso; omega))
     | ((with_reducible refine q4t ?_ fun hk => ?_); omega)
     | (simp -dsimp -implicitDefEqProofs [*]))
    subst hS1
    subst hR1
    exact Next.intro (j + 1) (by omega) (by omega) (by simp) q4p
   ·have e : j = 2 := by omega
    subst e
    have hsum : sum l = (q5x Sha.start (q40 l) (m + 2)).bytes := by rw [← hnum]; rfl
    rw [hsum]
    clear hsum hTT hnum hV0 hj hjl
    generalize q5x Sha.start (q40 l) (m + 2) = V at *
    have hV8 : V.row.length = 8 := rfl
    have hsubV := sub_all hV8
    repeat' (simp -dsimp -implicitDefEqProofs [*])
    refine q4e (fun i : Nat => [(2, .ptr p 0), (53, .agg V.row), (54, .int (i : Nat))]) (fun i => (p, .arr T.apiDigest (q38 (dAt V (4 * i)))) :: st) (fun i => i ≤ 8) (fun i => 8 - i) 0 (by omega) (by simp) (.fresh (by simp [hq])) ?_
    intro i hi
    have hwi := q4d (n := i) (by omega)
    by_cases hil : i < 8
    ·have hput : Does P F.q2z [.own p (4 * i) 4 (32 - 4 * i), .val (.int .u64 (((V.words.getD i 0).toNat : Nat) : Int))] ((p, .arr T.apiDigest (q38 (dAt V (4 * i)))) :: st) (.tuple []) ((p, .arr T.apiDigest (q38 (dAt V (4 * (i + 1))))) :: st) := by
      have h := k6e p (4 * i) (32 - 4 * i) T.apiDigest (q38 (V.bytes.take (4 * i))) (List.replicate 4 0#8) (q38 (List.replicate (28 - 4 * i) 0#8)) (V.words.getD i 0).toNat (by simp; omega) (by simp) st
      rw [← z21 V hil, List.length_replicate, k9o V hil] at h
      exact h
     have hg := z4o V hil
     have hwx := k5r (V.words.getD i 0)
     have w4 : IntKind.i64.wrap (4 * (i : Int)) = 4 * (i : Int) := q4h (by omega) (by omega)
     have w44 : IntKind.i64.wrap (4 * (i : Int) + 4) = 4 * (i : Int) + 4 := q4h (by omega) (by omega)
     have n4 : (4 * (i : Int)).toNat = 4 * i := by omega
     have n44 : (4 * (i : Int) + 4).toNat = 4 * i + 4 := by omega
     have hdl : (q38 (dAt V (4 * i))).length = 32 := by rw [q4j, z06 V (by omega)]
     generalize hB1 : q38 (dAt V (4 * (i + 1))) = B1 at *
     generalize q38 (dAt V (4 * i)) = B0 at *
     generalize V.words.getD i 0 = x at *
     have hgE : ∀ h : i < V.row.length, V.row[i]'h = wv x := fun h => by rw [List.getElem?_eq_getElem h] at hg; exact Option.some.inj hg
     repeat' (first 
      | (with_reducible refine Does.xcall (hput) ?_)
      | (with_reducible refine And.intro (fun h => ?_) (fun h => ?_)) <;> (try (exfalso; omega))
      | ((with_reducible refine q4t ?_ fun hk => ?_); omega)
      | (simp -dsimp -implicitDefEqProofs [*]))
     subst hB1
     exact Next.intro (i + 1) (by omega) (by omega) (by simp) q4p
    ·have e : i = 8 := by omega
     subst e
     clear hi hwi hil
     have hdl : (q38 (dAt V (4 * 8))).length = 32 := by rw [q4j, z06 V (by omega)]
     have hend : q38 (dAt V 32) = q38 V.bytes := by rw [j0y]
     have hall : q4a (q38 V.bytes) 0 (q38 V.bytes) = q38 V.bytes := q5e _ _ rfl
     have hB : (q38 V.bytes).length = 32 := rfl
     have hBs := sub_all hB
     generalize q38 V.bytes = B at *
     repeat' (simp -dsimp -implicitDefEqProofs [*])
  ·have hzz : q88 l.length = 55 - r := by have := kz.out; omega
   rw [hzz] at hpd
   have hTl : ((q40 l).drop (64 * m)).length = 64 := by rw [hpd]; simp [hRl]; omega
   have hE0 : q38 (l.drop (64 * m) ++ 0x80#8 :: List.replicate (127 - r) 0#8) = q38 (l.drop (64 * m) ++ 0x80#8 :: List.replicate (55 - r) 0#8) ++ (q38 (List.replicate 8 0#8) ++ q38 (List.replicate 64 0#8)) := by
    rw [← q4k, ← q4k]
    congr 1
    rw [List.append_assoc, List.cons_append, ← List.append_assoc (List.replicate (55 - r) 0#8), List.replicate_append_replicate, List.replicate_append_replicate]
    congr 3
    omega
   have hput : ∀ b st, Does P F.q2z [.own b 56 8 72, .val (.int .u64 ((l.length : Int) * 8))] ((b, .arr T.uint8 (q38 (l.drop (64 * m) ++ 0x80#8 :: List.replicate (127 - r) 0#8))) :: st) (.tuple [])
     ((b, .arr T.uint8 (q38 ((q40 l).drop (64 * m)) ++ q38 (List.replicate 64 0#8))) :: st) := fun b st => by
    have h := k6e b 56 72 T.uint8 (q38 (l.drop (64 * m) ++ 0x80#8 :: List.replicate (55 - r) 0#8)) (List.replicate 8 0#8) (q38 (List.replicate 64 0#8)) (l.length * 8) (by rw [q4j, List.length_append, List.length_cons, List.length_replicate, hRl]; omega) (by simp) st
    rw [← hE0] at h
    have e2 : q38 (l.drop (64 * m) ++ 0x80#8 :: List.replicate (55 - r) 0#8) ++ (q38 (q5w 8 (l.length * 8)) ++ q38 (List.replicate 64 0#8)) = q38 ((q40 l).drop (64 * m)) ++ q38 (List.replicate 64 0#8) := by
     rw [hpd, ← List.append_assoc, ← q4k]
     simp
    have e3 : ((l.length * 8 : Nat) : Int) = (l.length : Int) * 8 := by omega
    rw [List.length_replicate, e2, e3] at h
    exact h
   clear hE0 hpd kz hzz
   generalize hTT : (q40 l).drop (64 * m) = TL at *
   generalize q38 (l.drop (64 * m) ++ 0x80#8 :: List.replicate (127 - r) 0#8) = E0 at *
   generalize hR : (q38 l).drop (64 * m) = R at *
   have kN : Hid (l.length = 64 * m + r) := ⟨hNr⟩
   clear hNr hL hPl hsum
   repeat' (first 
    | (with_reducible refine Fresh.intro fun b hb => ?_) <;> (try simp -dsimp -implicitDefEqProofs [*] at hb)
    | (with_reducible refine Does.xcall (hput _ _) ?_)
    | (with_reducible refine And.intro (fun h => ?_) (fun h => ?_)) <;> (try (exfalso; omega))
    | ((with_reducible refine q4t ?_ fun hk => ?_); omega)
    | (simp -dsimp -implicitDefEqProofs [-List.reduceReplicate, *]))
   have hfz : Frz b (.arr T.uint8 (q38 TL ++ q38 (List.replicate 64 0#8))) (.own b 0 64 128) (.list false (q38 TL) 64) := by
    have h := Frz.own (b := b) (o := .arr T.uint8 (q38 TL ++ q38 (List.replicate 64 0#8))) T.uint8 (q38 TL ++ q38 (List.replicate 64 0#8)) 0 64 128 1 rfl (by omega) (by omega)
    rw [List.drop_zero] at h
    have e : (q38 TL ++ q38 (List.replicate 64 0#8)).take (64 * 1) = q38 TL := by
     rw [List.take_append_of_le_length (by rw [q4j, hTl]; omega), List.take_of_length_le (by rw [q4j, hTl]; omega)]
    rw [e] at h
    exact h
   have hnum : (q40 l).length / 64 = m + 1 := by
    have h1 := congrArg List.length hTT
    rw [List.length_drop, hTl] at h1
    omega
   refine k9j (fun j : Nat => [(2, .ptr p 0), (3, .ptr q 0), (4, .func (.func F.q0y) [.ptr q 0] []), (6, .list false ((q38 TL).drop (64 * j)) (64 - 64 * j))]) (fun j => (q, .arr T.digeststate (q5x Sha.start (q40 l) (m + j)).row) :: (p, .arr T.apiDigest (q38 z32)) :: st) (fun j => j ≤ 1) (fun j => 1 - j) 0 (by omega) ?_ ?_
   ·refine View.frz (b := b) (o := .arr T.uint8 (q38 TL ++ q38 (List.replicate 64 0#8))) (by simp [*]) ?_ ?_
    ·show StLe (_ :: (q, .arr T.digeststate (q5x Sha.start (q40 l) m).row) :: _) _
     rw [hV0]
     exact .refl _
    ·simp [Frz.refl]
     exact hfz
   clear hfz hput
   intro j hj
   by_cases hjl : j < 1
   ·have hLL : ∃ L : Nat, 64 - 64 * j = L ∧ 64 ≤ L ∧ L ≤ 128 ∧ L - 64 = 64 - 64 * (j + 1) := ⟨_, rfl, by omega, by omega, by omega⟩
    obtain ⟨L, hL1, hL2, hL3, hL4⟩ := hLL
    have hch : ((q40 l).drop (64 * (m + j))).take 64 = (TL.drop (64 * j)).take 64 := by
     rw [← hTT, List.drop_drop, show 64 * m + 64 * j = 64 * (m + j) by omega]
    have hcl : ((TL.drop (64 * j)).take 64).length = 64 := by simp; omega
    have hb1 : q5x Sha.start (q40 l) (m + (j + 1)) = block (q5x Sha.start (q40 l) (m + j)) ((TL.drop (64 * j)).take 64) := by rw [← hch]; rfl
    have habs := k2w q (q5x Sha.start (q40 l) (m + j)) false ((TL.drop (64 * j)).take 64) hcl ((p, .arr T.apiDigest (q38 z32)) :: st) (by simp [hq]) hq1 hres0
    rw [← hb1] at habs
    have e1 : q5b false ((TL.drop (64 * j)).take 64) = .list false (((q38 TL).drop (64 * j)).take 64) 64 := by
     show PV.list false (q38 _) _ = _
     rw [hcl, q7g, q9j]
    rw [e1] at habs
    have hdd : ((q38 TL).drop (64 * j)).drop 64 = (q38 TL).drop (64 * (j + 1)) := by rw [List.drop_drop]; congr 1
    simp only [hL1]
    have hrl2 : ((q38 TL).drop (64 * j)).length = L := by simp; omega
    clear e1 hb1 hch hcl
    generalize hS1 : q5x Sha.start (q40 l) (m + (j + 1)) = S1 at *
    generalize hR1 : (q38 TL).drop (64 * (j + 1)) = R1 at *
    generalize (q38 TL).drop (64 * j) = R0 at *
    generalize q5x Sha.start (q40 l) (m + j) = S0 at *
    repeat' (first 
     | (with_reducible refine Does.xcall (habs) ?_)
     | (with_reducible refine And.intro (fun h => ?_) (fun h => ?_)) <;> (try (exfalso; omega))
     | ((with_reducible refine q4t ?_ fun hk => ?_); omega)
     | (simp -dsimp -implicitDefEqProofs [*]))
    subst hS1
    subst hR1
    exact Next.intro (j + 1) (by omega) (by omega) (by simp) q4p
   ·have e : j = 1 := by omega
    subst e
    have hsum : sum l = (q5x Sha.start (q40 l) (m + 1)).bytes := by rw [← hnum]; rfl
    rw [hsum]
    clear hsum hTT hnum hV0 hj hjl
    generalize q5x Sha.start (q40 l) (m + 1) = V at *
    have hV8 : V.row.length = 8 := rfl
    have hsubV := sub_all hV8
    repeat' (simp -dsimp -implicitDefEqProofs [*])
    refine q4e (fun i : Nat => [(2, .ptr p 0), (53, .agg V.row), (54, .int (i : Nat))]) (fun i => (p, .arr T.apiDigest (q38 (dAt V (4 * i)))) :: st) (fun i => i ≤ 8) (fun i => 8 - i) 0 (by omega) (by simp) (.fresh (by simp [hq])) ?_
    intro i hi
    have hwi := q4d (n := i) (by omega)
    by_cases hil : i < 8
    ·have hput : Does P F.q2z [.own p (4 * i) 4 (32 - 4 * i), .val (.int .u64 (((V.words.getD i 0).toNat : Nat) : Int))] ((p, .arr T.apiDigest (q38 (dAt V (4 * i)))) :: st) (.tuple []) ((p, .arr T.apiDigest (q38 (dAt V (4 * (i + 1))))) :: st) := by
      have h := k6e p (4 * i) (32 - 4 * i) T.apiDigest (q38 (V.bytes.take (4 * i))) (List.replicate 4 0#8) (q38 (List.replicate (28 - 4 * i) 0#8)) (V.words.getD i 0).toNat (by simp; omega) (by simp) st
      rw [← z21 V hil, List.length_replicate, k9o V hil] at h
      exact h
     have hg := z4o V hil
     have hwx := k5r (V.words.getD i 0)
     have w4 : IntKind.i64.wrap (4 * (i : Int)) = 4 * (i : Int) := q4h (by omega) (by omega)
     have w44 : IntKind.i64.wrap (4 * (i : Int) + 4) = 4 * (i : Int) + 4 := q4h (by omega) (by omega)
     have n4 : (4 * (i : Int)).toNat = 4 * i := by omega
     have n44 : (4 * (i : Int) + 4).toNat = 4 * i + 4 := by omega
     have hdl : (q38 (dAt V (4 * i))).length = 32 := by rw [q4j, z06 V (by omega)]
     generalize hB1 : q38 (dAt V (4 * (i + 1))) = B1 at *
     generalize q38 (dAt V (4 * i)) = B0 at *
     generalize V.words.getD i 0 = x at *
     have hgE : ∀ h : i < V.row.length, V.row[i]'h = wv x := fun h => by rw [List.getElem?_eq_getElem h] at hg; exact Option.some.inj hg
     repeat' (first 
      | (with_reducible refine Does.xcall (hput) ?_)
      | (with_reducible refine And.intro (fun h => ?_) (fun h => ?_)) <;> (try (exfalso; omega))
      | ((with_reducible refine q4t ?_ fun hk => ?_); omega)
      | (simp -dsimp -implicitDefEqProofs [*]))
     subst hB1
     exact Next.intro (i + 1) (by omega) (by omega) (by simp) q4p
    ·have e : i = 8 := by omega
     subst e
     clear hi hwi hil
     have hdl : (q38 (dAt V (4 * 8))).length = 32 := by rw [q4j, z06 V (by omega)]
     have hend : q38 (dAt V 32) = q38 V.bytes := by rw [j0y]
     have hall : q4a (q38 V.bytes) 0 (q38 V.bytes) = q38 V.bytes := q5e _ _ rfl
     have hB : (q38 V.bytes).length = 32 := rfl
     have hBs := sub_all hB
     generalize q38 V.bytes = B at *
     repeat' (simp -dsimp -implicitDefEqProofs [*])
end Go.Proofs.YtnooplpbpfiapaaGreatDoor
