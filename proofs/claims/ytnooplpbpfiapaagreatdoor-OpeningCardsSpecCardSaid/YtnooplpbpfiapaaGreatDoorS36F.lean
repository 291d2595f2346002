/- SHA-256 by the program. -/
import Derived.Test.YtnooplpbpfiapaaGreatDoorS36E
namespace Go.Proofs.YtnooplpbpfiapaaGreatDoor
open Go.Pv Go.Pv.Sha
set_option maxRecDepth 100000
set_option maxHeartbeats 4000000
theorem k8g (b off cap : Nat) (T0 : TypeId) (A : List PV) (X : List (BitVec 8)) (C : List PV) (n : Nat) (hA : A.length = off) (hX : X.length ≤ 8) (st : q5d) :
  Does P F.q3y [.own b off X.length cap, .val (.int .u64 (n : Int))] ((b, .arr T0 (A ++ (q5e X ++ C))) :: st) (.tuple []) ((b, .arr T0 (A ++ (q5e (q6v X.length n) ++ C))) :: st) := by
 refine H.q3y.view q5n rfl rfl ?_
 rw [← j29 A X C n, ← j6c A X C n]
 obtain ⟨k, hk⟩ : ∃ k, X.length = k := ⟨_, rfl⟩
 simp only [hk]
 have hk8 : k ≤ 8 := by omega
 repeat' (simp -dsimp -implicitDefEqProofs [*])
 refine q5g (fun i : Nat => [(0, .own b off k cap), (1, .val (.int .u64 (n : Int))), (6, .int (k : Nat)), (7, .int (i : Nat))]) (fun i => (b, .arr T0 (j1k A X C n i)) :: st) (fun i => i ≤ k) (fun i => k - i) 0 (by omega) (by simp) (.refl _) ?_
 intro i hi
 have hwi := q5h (n := i) (by omega)
 by_cases hil : i < k
 ·have hset := j6e A X C n (i := i) (by omega)
  have hlen := j6d A X C n (i := i) (by omega)
  rw [hA, hk] at hset
  rw [hA, hk] at hlen
  have hs := z81 n i (by omega)
  obtain ⟨j, hj⟩ : ∃ j, k - 1 - i = j := ⟨_, rfl⟩
  rw [hj] at hset
  have w1 : IntKind.i64.wrap ((k : Int) - 1) = (k : Int) - 1 := q5m (by omega) (by omega)
  have w2 : IntKind.i64.wrap ((k : Int) - 1 - i) = (j : Int) := by rw [q5m (by omega) (by omega)]; omega
  have w8 : IntKind.i64.wrap (8 * (i : Int)) = 8 * (i : Int) := q5m (by omega) (by omega)
  have n8 : (8 * (i : Int)).toNat = 8 * i := by omega
  have hjk : j < k := by omega
  generalize BitVec.ofNat 8 (n >>> (8 * i)) = x at *
  generalize hR1 : j1k A X C n (i + 1) = R1 at *
  generalize j1k A X C n i = R at *
  repeat' (first 
   | ((with_reducible refine q51 ?_ fun hk => ?_); omega)
   | (simp -dsimp -implicitDefEqProofs [*]))
  subst hR1
  exact Next.intro (i + 1) (by omega) (by omega) (by simp) q5q
 ·have e : i = k := by omega
  subst e
  clear hi hwi hil
  repeat' (simp -dsimp -implicitDefEqProofs [*])
  exact .same ⟨rfl, rfl⟩
theorem z83 (t : Bool) (l : List (BitVec 8)) (hl : l.length ≤ 1000000) (st : q5d) (h0 : q5w st 0 = some (.arr T.t8uint32 Sha.start.row)) (h1 : q5w st 1 = some q9o) : Rets P F.q4k [q5s t l] st (.agg (q5e (sum l))) := by
 refine H.q4k.pure q5n rfl rfl ?_
 have hen : k2t P F.q01 := H.q01.enters
 have hsr : Sha.start.row.length = 8 := rfl
 have hall8 : ∀ L : List PV, L.length = 8 → q5i L 0 Sha.start.row = Sha.start.row := fun L h => q6e _ _ (by rw [h]; rfl)
 have hPl := k60 l
 have hll : l.length ≤ 1000000 := hl
 obtain ⟨N, r, hNr, hr64⟩ : ∃ N r, l.length = 64 * N + r ∧ r < 64 := ⟨l.length / 64, l.length % 64, by omega, by omega⟩
 have hsum : sum l = (q6q Sha.start (q52 l) ((q52 l).length / 64)).bytes := rfl
 have hsub0 := sub_all hsr
 repeat' (first 
  | (with_reducible refine Fresh.intro fun b hb => ?_) <;> (try simp -dsimp -implicitDefEqProofs [*] at hb)
  | (simp -dsimp -implicitDefEqProofs [*]))
 revert b
 intro p hp
 have hp0 := (q6m hp h0).1
 have hp1 := (q6m hp h1).1
 repeat' (first 
  | (with_reducible refine Fresh.intro fun b hb => ?_) <;> (try simp -dsimp -implicitDefEqProofs [*] at hb)
  | (simp -dsimp -implicitDefEqProofs [*]))
 revert b
 intro q hq
 have hq0 := (q6m hq.2 h0).1
 have hq1 := (q6m hq.2 h1).1
 have hres0 : q5w ((p, .arr T.apiDigest (q5e z32)) :: st) 1 = some q9o := by simp [hp1, h1]
 refine q5g (fun m : Nat => [(0, q5s t l), (2, .ptr p 0), (3, .ptr q 0), (4, .func (.func F.q01) [.ptr q 0] []), (5, .list t ((q5e l).drop (64 * m)) (l.length - 64 * m))]) (fun m => (q, .arr T.digeststate (q6q Sha.start (q52 l) m).row) :: (p, .arr T.apiDigest (q5e z32)) :: st) (fun m => m ≤ N) (fun m => N - m) 0 (by omega) (by simp) (.refl _) ?_
 intro m hm
 by_cases hml : m < N
 ·have hL : ∃ L : Nat, l.length - 64 * m = L ∧ 64 ≤ L ∧ L ≤ 1000000 ∧ L - 64 = l.length - 64 * (m + 1) := ⟨_, rfl, by omega, by omega, by omega⟩
  obtain ⟨L, hL1, hL2, hL3, hL4⟩ := hL
  have hch : ((q52 l).drop (64 * m)).take 64 = (l.drop (64 * m)).take 64 := by
   unfold q52
   rw [List.drop_append_of_le_length (by omega), List.take_append_of_le_length (by simp; omega)]
  have hcl : ((l.drop (64 * m)).take 64).length = 64 := by simp; omega
  have hb1 : q6q Sha.start (q52 l) (m + 1) = block (q6q Sha.start (q52 l) m) ((l.drop (64 * m)).take 64) := by rw [← hch]; rfl
  have habs := k44 q (q6q Sha.start (q52 l) m) false ((l.drop (64 * m)).take 64) hcl ((p, .arr T.apiDigest (q5e z32)) :: st) (by simp [hq]) hq1 hres0
  rw [← hb1] at habs
  have e1 : q5s false ((l.drop (64 * m)).take 64) = .list false (((q5e l).drop (64 * m)).take 64) 64 := by
   show PV.list false (q5e _) _ = _
   rw [hcl, q8b, q94]
  rw [e1] at habs
  have hdd : ((q5e l).drop (64 * m)).drop 64 = (q5e l).drop (64 * (m + 1)) := by rw [List.drop_drop]; congr 1
  simp only [hL1]
  have hrl : ((q5e l).drop (64 * m)).length = L := by simp; omega
  clear e1 hb1 hch hcl
  generalize hS1 : q6q Sha.start (q52 l) (m + 1) = S1 at *
  generalize hR1 : (q5e l).drop (64 * (m + 1)) = R1 at *
  generalize (q5e l).drop (64 * m) = R at *
  generalize q6q Sha.start (q52 l) m = S0 at *
  repeat' (first 
   | (with_reducible refine Does.xcall (habs) ?_)
   | (with_reducible refine And.intro (fun h => ?_) (fun h => ?_)) <;> (try (exfalso; omega))
   | ((with_reducible refine q51 ?_ fun hk => ?_); omega)
   | (simp -dsimp -implicitDefEqProofs [*]))
  subst hS1
  subst hR1
  refine Next.intro (m + 1) (by omega) (by omega) ?_ q5q
  simp
  omega
 ·have e : m = N := by omega
  subst e
  have hL : l.length - 64 * m = r := by omega
  simp only [hL]
  have hrl : ((q5e l).drop (64 * m)).length = r := by simp; omega
  have hRl : (l.drop (64 * m)).length = r := by simp; omega
  have hfill := j25 (l.drop (64 * m)) r hRl hr64
  rw [← q8b] at hfill
  have hw1 : IntKind.u64.wrap (l.length : Int) = (l.length : Int) := q70 (by omega) (by omega)
  have hw2 : IntKind.u64.wrap ((l.length : Int) * 8) = (l.length : Int) * 8 := q70 (by omega) (by omega)
  have w56 : IntKind.i64.wrap 56 = 56 := rfl
  have w120 : IntKind.i64.wrap 120 = 120 := rfl
  have hz := j6a
  have hpd : (q52 l).drop (64 * m) = l.drop (64 * m) ++ (0x80#8 :: (List.replicate (q7j l.length) 0#8 ++ q6v 8 (l.length * 8))) := by
   unfold q52
   rw [List.drop_append_of_le_length (by omega)]
  have hpm := z1s l
  have kz : Hid (q7j l.length = (119 - r) % 64) := ⟨by unfold q7j; congr 2; omega⟩
  have hr64' : (r : Int) ≤ 128 := by omega
  have hz128 : (q5e y2n).length = 128 := by rw [q5t]; rfl
  generalize hV0 : q6q Sha.start (q52 l) m = V0 at *
  by_cases hr : 55 < (r : Int)
  ·have hzz : q7j l.length = 119 - r := by have := kz.out; omega
   rw [hzz] at hpd
   have hTl : ((q52 l).drop (64 * m)).length = 128 := by rw [hpd]; simp [hRl]; omega
   have hE0 : q5e (l.drop (64 * m) ++ 0x80#8 :: List.replicate (127 - r) 0#8) = q5e (l.drop (64 * m) ++ 0x80#8 :: List.replicate (119 - r) 0#8) ++ (q5e (List.replicate 8 0#8) ++ q5e (List.replicate 0 0#8)) := by
    rw [← q5l, ← q5l]
    congr 1
    rw [List.append_assoc, List.cons_append, ← List.append_assoc (List.replicate (119 - r) 0#8), List.replicate_append_replicate, List.replicate_append_replicate]
    congr 3
    omega
   have hput : ∀ b st, Does P F.q3y [.own b 120 8 8, .val (.int .u64 ((l.length : Int) * 8))] ((b, .arr T.uint8 (q5e (l.drop (64 * m) ++ 0x80#8 :: List.replicate (127 - r) 0#8))) :: st) (.tuple [])
     ((b, .arr T.uint8 (q5e ((q52 l).drop (64 * m)) ++ q5e (List.replicate 0 0#8))) :: st) := fun b st => by
    have h := k8g b 120 8 T.uint8 (q5e (l.drop (64 * m) ++ 0x80#8 :: List.replicate (119 - r) 0#8)) (List.replicate 8 0#8) (q5e (List.replicate 0 0#8)) (l.length * 8) (by rw [q5t, List.length_append, List.length_cons, List.length_replicate, hRl]; omega) (by simp) st
    rw [← hE0] at h
    have e2 : q5e (l.drop (64 * m) ++ 0x80#8 :: List.replicate (119 - r) 0#8) ++ (q5e (q6v 8 (l.length * 8)) ++ q5e (List.replicate 0 0#8)) = q5e ((q52 l).drop (64 * m)) ++ q5e (List.replicate 0 0#8) := by
     rw [hpd, ← List.append_assoc, ← q5l]
     simp
    have e3 : ((l.length * 8 : Nat) : Int) = (l.length : Int) * 8 := by omega
    rw [List.length_replicate, e2, e3] at h
    exact h
   clear hE0 hpd kz hzz
   generalize hTT : (q52 l).drop (64 * m) = TL at *
   generalize q5e (l.drop (64 * m) ++ 0x80#8 :: List.replicate (127 - r) 0#8) = E0 at *
   generalize hR : (q5e l).drop (64 * m) = R at *
   have kN : Hid (l.length = 64 * m + r) := ⟨hNr⟩
   clear hNr hL hPl hsum
   repeat' (first 
    | (with_reducible refine Fresh.intro fun b hb => ?_) <;> (try simp -dsimp -implicitDefEqProofs [*] at hb)
    | (with_reducible refine Does.xcall (hput _ _) ?_)
    | (with_reducible refine And.intro (fun h => ?_) (fun h => ?_)) <;> (try (exfalso; omega))
    | ((with_reducible refine q51 ?_ fun hk => ?_); omega)
    | (simp -dsimp -implicitDefEqProofs [-List.reduceReplicate, *]))
   have hfz : Frz b (.arr T.uint8 (q5e TL)) (.own b 0 128 128) (.list false (q5e TL) 128) := by
    have h := Frz.own (b := b) (o := .arr T.uint8 (q5e TL)) T.uint8 (q5e TL) 0 128 128 1 rfl (by omega) (by omega)
    rw [List.drop_zero] at h
    have e : (q5e TL).take (128 * 1) = q5e TL := by
     rw [List.take_of_length_le (by rw [q5t, hTl]; omega)]
    rw [e] at h
    exact h
   have hnum : (q52 l).length / 64 = m + 2 := by
    have h1 := congrArg List.length hTT
    rw [List.length_drop, hTl] at h1
    omega
   refine z1o (fun j : Nat => [(2, .ptr p 0), (3, .ptr q 0), (4, .func (.func F.q01) [.ptr q 0] []), (6, .list false ((q5e TL).drop (64 * j)) (128 - 64 * j))]) (fun j => (q, .arr T.digeststate (q6q Sha.start (q52 l) (m + j)).row) :: (p, .arr T.apiDigest (q5e z32)) :: st) (fun j => j ≤ 2) (fun j => 2 - j) 0 (by omega) ?_ ?_
   ·refine View.frz (b := b) (o := .arr T.uint8 (q5e TL)) (by simp [*]) ?_ ?_
    ·show StLe (_ :: (q, .arr T.digeststate (q6q Sha.start (q52 l) m).row) :: _) _
     rw [hV0]
     exact .refl _
    ·simp [Frz.refl]
     exact hfz
   clear hfz hput
   intro j hj
   by_cases hjl : j < 2
   ·have hLL : ∃ L : Nat, 128 - 64 * j = L ∧ 64 ≤ L ∧ L ≤ 128 ∧ L - 64 = 128 - 64 * (j + 1) := ⟨_, rfl, by omega, by omega, by omega⟩
    obtain ⟨L, hL1, hL2, hL3, hL4⟩ := hLL
    have hch : ((q52 l).drop (64 * (m + j))).take 64 = (TL.drop (64 * j)).take 64 := by
     rw [← hTT, List.drop_drop, show 64 * m + 64 * j = 64 * (m + j) by omega]
    have hcl : ((TL.drop (64 * j)).take 64).length = 64 := by simp; omega
    have hb1 : q6q Sha.start (q52 l) (m + (j + 1)) = block (q6q Sha.start (q52 l) (m + j)) ((TL.drop (64 * j)).take 64) := by rw [← hch]; rfl
    have habs := k44 q (q6q Sha.start (q52 l) (m + j)) false ((TL.drop (64 * j)).take 64) hcl ((p, .arr T.apiDigest (q5e z32)) :: st) (by simp [hq]) hq1 hres0
    rw [← hb1] at habs
    have e1 : q5s false ((TL.drop (64 * j)).take 64) = .list false (((q5e TL).drop (64 * j)).take 64) 64 := by
     show PV.list false (q5e _) _ = _
     rw [hcl, q8b, q94]
    rw [e1] at habs
    have hdd : ((q5e TL).drop (64 * j)).drop 64 = (q5e TL).drop (64 * (j + 1)) := by rw [List.drop_drop]; congr 1
    simp only [hL1]
    have hrl2 : ((q5e TL).drop (64 * j)).length = L := by simp; omega
    clear e1 hb1 hch hcl
    generalize hS1 : q6q Sha.start (q52 l) (m + (j + 1)) = S1 at *
    generalize hR1 : (q5e TL).drop (64 * (j + 1)) = R1 at *
    generalize (q5e TL).drop (64 * j) = R0 at *
    generalize q6q Sha.start (q52 l) (m + j) = S0 at *
    repeat' (first 
     | (with_reducible refine Does.xcall (habs) ?_)
     | (with_reducible refine And.intro (fun h => ?_) (fun h => ?_)) <;> (try (exfalso; omega))
     | ((with_reducible refine q51 ?_ fun hk => ?_); omega)
     | (simp -dsimp -implicitDefEqProofs [*]))
    subst hS1
    subst hR1
    exact Next.intro (j + 1) (by omega) (by omega) (by simp) q5q
   ·have e : j = 2 := by omega
    subst e
    have hsum : sum l = (q6q Sha.start (q52 l) (m + 2)).bytes := by rw [← hnum]; rfl
    rw [hsum]
    clear hsum hTT hnum hV0 hj hjl
    generalize q6q Sha.start (q52 l) (m + 2) = V at *
    have hV8 : V.row.length = 8 := rfl
    have hsubV := sub_all hV8
    repeat' (simp -dsimp -implicitDefEqProofs [*])
    refine q5g (fun i : Nat => [(2, .ptr p 0), (53, .agg V.row), (54, .int (i : Nat))]) (fun i => (p, .arr T.apiDigest (q5e (dAt V (4 * i)))) :: st) (fun i => i ≤ 8) (fun i => 8 - i) 0 (by omega) (by simp) (.fresh (by simp [hq])) ?_
    intro i hi
    have hwi := q5h (n := i) (by omega)
    by_cases hil : i < 8
    ·have hput : Does P F.q3y [.own p (4 * i) 4 (32 - 4 * i), .val (.int .u64 (((V.words.getD i 0).toNat : Nat) : Int))] ((p, .arr T.apiDigest (q5e (dAt V (4 * i)))) :: st) (.tuple []) ((p, .arr T.apiDigest (q5e (dAt V (4 * (i + 1))))) :: st) := by
      have h := k8g p (4 * i) (32 - 4 * i) T.apiDigest (q5e (V.bytes.take (4 * i))) (List.replicate 4 0#8) (q5e (List.replicate (28 - 4 * i) 0#8)) (V.words.getD i 0).toNat (by simp; omega) (by simp) st
      rw [← z49 V hil, List.length_replicate, z1t V hil] at h
      exact h
     have hg := z3a V hil
     have hwx := k7s (V.words.getD i 0)
     have w4 : IntKind.i64.wrap (4 * (i : Int)) = 4 * (i : Int) := q5m (by omega) (by omega)
     have w44 : IntKind.i64.wrap (4 * (i : Int) + 4) = 4 * (i : Int) + 4 := q5m (by omega) (by omega)
     have n4 : (4 * (i : Int)).toNat = 4 * i := by omega
     have n44 : (4 * (i : Int) + 4).toNat = 4 * i + 4 := by omega
     have hdl : (q5e (dAt V (4 * i))).length = 32 := by rw [q5t, k9l V (by omega)]
     generalize hB1 : q5e (dAt V (4 * (i + 1))) = B1 at *
     generalize q5e (dAt V (4 * i)) = B0 at *
     generalize V.words.getD i 0 = x at *
     have hgE : ∀ h : i < V.row.length, V.row[i]'h = wv x := fun h => by rw [List.getElem?_eq_getElem h] at hg; exact Option.some.inj hg
     repeat' (first 
      | (with_reducible refine Does.xcall (hput) ?_)
      | (with_reducible refine And.intro (fun h => ?_) (fun h => ?_)) <;> (try (exfalso; omega))
      | ((with_reducible refine q51 ?_ fun hk => ?_); omega)
      | (simp -dsimp -implicitDefEqProofs [*]))
     subst hB1
     exact Next.intro (i + 1) (by omega) (by omega) (by simp) q5q
    ·have e : i = 8 := by omega
     subst e
     clear hi hwi hil
     have hdl : (q5e (dAt V (4 * 8))).length = 32 := by rw [q5t, k9l V (by omega)]
     have hend : q5e (dAt V 32) = q5e V.bytes := by rw [z60]
     have hall : q5i (q5e V.bytes) 0 (q5e V.bytes) = q5e V.bytes := q6e _ _ rfl
     have hB : (q5e V.bytes).length = 32 := rfl
     have hBs := sub_all hB
     generalize q5e V.bytes = B at *
     repeat' (simp -dsimp -implicitDefEqProofs [*])
  ·have hzz : q7j l.length = 55 - r := by have := kz.out; omega
   rw [hzz] at hpd
   have hTl : ((q52 l).drop (64 * m)).length = 64 := by rw [hpd]; simp [hRl]; omega
   have hE0 : q5e (l.drop (64 * m) ++ 0x80#8 :: List.replicate (127 - r) 0#8) = q5e (l.drop (64 * m) ++ 0x80#8 :: List.replicate (55 - r) 0#8) ++ (q5e (List.replicate 8 0#8) ++ q5e (List.replicate 64 0#8)) := by
    rw [← q5l, ← q5l]
    congr 1
    rw [List.append_assoc, List.cons_append, ← List.append_assoc (List.replicate (55 - r) 0#8), List.replicate_append_replicate, List.replicate_append_replicate]
    congr 3
    omega
   have hput : ∀ b st, Does P F.q3y [.own b 56 8 72, .val (.int .u64 ((l.length : Int) * 8))] ((b, .arr T.uint8 (q5e (l.drop (64 * m) ++ 0x80#8 :: List.replicate (127 - r) 0#8))) :: st) (.tuple [])
     ((b, .arr T.uint8 (q5e ((q52 l).drop (64 * m)) ++ q5e (List.replicate 64 0#8))) :: st) := fun b st => by
    have h := k8g b 56 72 T.uint8 (q5e (l.drop (64 * m) ++ 0x80#8 :: List.replicate (55 - r) 0#8)) (List.replicate 8 0#8) (q5e (List.replicate 64 0#8)) (l.length * 8) (by rw [q5t, List.length_append, List.length_cons, List.length_replicate, hRl]; omega) (by simp) st
    rw [← hE0] at h
    have e2 : q5e (l.drop (64 * m) ++ 0x80#8 :: List.replicate (55 - r) 0#8) ++ (q5e (q6v 8 (l.length * 8)) ++ q5e (List.replicate 64 0#8)) = q5e ((q52 l).drop (64 * m)) ++ q5e (List.replicate 64 0#8) := by
     rw [hpd, ← List.append_assoc, ← q5l]
     simp
    have e3 : ((l.length * 8 : Nat) : Int) = (l.length : Int) * 8 := by omega
    rw [List.length_replicate, e2, e3] at h
    exact h
   clear hE0 hpd kz hzz
   generalize hTT : (q52 l).drop (64 * m) = TL at *
   generalize q5e (l.drop (64 * m) ++ 0x80#8 :: List.replicate (127 - r) 0#8) = E0 at *
   generalize hR : (q5e l).drop (64 * m) = R at *
   have kN : Hid (l.length = 64 * m + r) := ⟨hNr⟩
   clear hNr hL hPl hsum
   repeat' (first 
    | (with_reducible refine Fresh.intro fun b hb => ?_) <;> (try simp -dsimp -implicitDefEqProofs [*] at hb)
    | (with_reducible refine Does.xcall (hput _ _) ?_)
    | (with_reducible refine And.intro (fun h => ?_) (fun h => ?_)) <;> (try (exfalso; omega))
    | ((with_reducible refine q51 ?_ fun hk => ?_); omega)
    | (simp -dsimp -implicitDefEqProofs [-List.reduceReplicate, *]))
   have hfz : Frz b (.arr T.uint8 (q5e TL ++ q5e (List.replicate 64 0#8))) (.own b 0 64 128) (.list false (q5e TL) 64) := by
    have h := Frz.own (b := b) (o := .arr T.uint8 (q5e TL ++ q5e (List.replicate 64 0#8))) T.uint8 (q5e TL ++ q5e (List.replicate 64 0#8)) 0 64 128 1 rfl (by omega) (by omega)
    rw [List.drop_zero] at h
    have e : (q5e TL ++ q5e (List.replicate 64 0#8)).take (64 * 1) = q5e TL := by
     rw [List.take_append_of_le_length (by rw [q5t, hTl]; omega), List.take_of_length_le (by rw [q5t, hTl]; omega)]
    rw [e] at h
    exact h
   have hnum : (q52 l).length / 64 = m + 1 := by
    have h1 := congrArg List.length hTT
    rw [List.length_drop, hTl] at h1
    omega
   refine z1o (fun j : Nat => [(2, .ptr p 0), (3, .ptr q 0), (4, .func (.func F.q01) [.ptr q 0] []), (6, .list false ((q5e TL).drop (64 * j)) (64 - 64 * j))]) (fun j => (q, .arr T.digeststate (q6q Sha.start (q52 l) (m + j)).row) :: (p, .arr T.apiDigest (q5e z32)) :: st) (fun j => j ≤ 1) (fun j => 1 - j) 0 (by omega) ?_ ?_
   ·refine View.frz (b := b) (o := .arr T.uint8 (q5e TL ++ q5e (List.replicate 64 0#8))) (by simp [*]) ?_ ?_
    ·show StLe (_ :: (q, .arr T.digeststate (q6q Sha.start (q52 l) m).row) :: _) _
     rw [hV0]
     exact .refl _
    ·simp [Frz.refl]
     exact hfz
   clear hfz hput
   intro j hj
   by_cases hjl : j < 1
   ·have hLL : ∃ L : Nat, 64 - 64 * j = L ∧ 64 ≤ L ∧ L ≤ 128 ∧ L - 64 = 64 - 64 * (j + 1) := ⟨_, rfl, by omega, by omega, by omega⟩
    obtain ⟨L, hL1, hL2, hL3, hL4⟩ := hLL
    have hch : ((q52 l).drop (64 * (m + j))).take 64 = (TL.drop (64 * j)).take 64 := by
     rw [← hTT, List.drop_drop, show 64 * m + 64 * j = 64 * (m + j) by omega]
    have hcl : ((TL.drop (64 * j)).take 64).length = 64 := by simp; omega
    have hb1 : q6q Sha.start (q52 l) (m + (j + 1)) = block (q6q Sha.start (q52 l) (m + j)) ((TL.drop (64 * j)).take 64) := by rw [← hch]; rfl
    have habs := k44 q (q6q Sha.start (q52 l) (m + j)) false ((TL.drop (64 * j)).take 64) hcl ((p, .arr T.apiDigest (q5e z32)) :: st) (by simp [hq]) hq1 hres0
    rw [← hb1] at habs
    have e1 : q5s false ((TL.drop (64 * j)).take 64) = .list false (((q5e TL).drop (64 * j)).take 64) 64 := by
     show PV.list false (q5e _) _ = _
     rw [hcl, q8b, q94]
    rw [e1] at habs
    have hdd : ((q5e TL).drop (64 * j)).drop 64 = (q5e TL).drop (64 * (j + 1)) := by rw [List.drop_drop]; congr 1
    simp only [hL1]
    have hrl2 : ((q5e TL).drop (64 * j)).length = L := by simp; omega
    clear e1 hb1 hch hcl
    generalize hS1 : q6q Sha.start (q52 l) (m + (j + 1)) = S1 at *
    generalize hR1 : (q5e TL).drop (64 * (j + 1)) = R1 at *
    generalize (q5e TL).drop (64 * j) = R0 at *
    generalize q6q Sha.start (q52 l) (m + j) = S0 at *
    repeat' (first 
     | (with_reducible refine Does.xcall (habs) ?_)
     | (with_reducible refine And.intro (fun h => ?_) (fun h => ?_)) <;> (try (exfalso; omega))
     | ((with_reducible refine q51 ?_ fun hk => ?_); omega)
     | (simp -dsimp -implicitDefEqProofs [*]))
    subst hS1
    subst hR1
    exact Next.intro (j + 1) (by omega) (by omega) (by simp) q5q
   ·have e : j = 1 := by omega
    subst e
    have hsum : sum l = (q6q Sha.start (q52 l) (m + 1)).bytes := by rw [← hnum]; rfl
    rw [hsum]
    clear hsum hTT hnum hV0 hj hjl
    generalize q6q Sha.start (q52 l) (m + 1) = V at *
    have hV8 : V.row.length = 8 := rfl
    have hsubV := sub_all hV8
    repeat' (simp -dsimp -implicitDefEqProofs [*])
    refine q5g (fun i : Nat => [(2, .ptr p 0), (53, .agg V.row), (54, .int (i : Nat))]) (fun i => (p, .arr T.apiDigest (q5e (dAt V (4 * i)))) :: st) (fun i => i ≤ 8) (fun i => 8 - i) 0 (by omega) (by simp) (.fresh (by simp [hq])) ?_
    intro i hi
    have hwi := q5h (n := i) (by omega)
    by_cases hil : i < 8
    ·have hput : Does P F.q3y [.own p (4 * i) 4 (32 - 4 * i), .val (.int .u64 (((V.words.getD i 0).toNat : Nat) : Int))] ((p, .arr T.apiDigest (q5e (dAt V (4 * i)))) :: st) (.tuple []) ((p, .arr T.apiDigest (q5e (dAt V (4 * (i + 1))))) :: st) := by
      have h := k8g p (4 * i) (32 - 4 * i) T.apiDigest (q5e (V.bytes.take (4 * i))) (List.replicate 4 0#8) (q5e (List.replicate (28 - 4 * i) 0#8)) (V.words.getD i 0).toNat (by simp; omega) (by simp) st
      rw [← z49 V hil, List.length_replicate, z1t V hil] at h
      exact h
     have hg := z3a V hil
     have hwx := k7s (V.words.getD i 0)
     have w4 : IntKind.i64.wrap (4 * (i : Int)) = 4 * (i : Int) := q5m (by omega) (by omega)
     have w44 : IntKind.i64.wrap (4 * (i : Int) + 4) = 4 * (i : Int) + 4 := q5m (by omega) (by omega)
     have n4 : (4 * (i : Int)).toNat = 4 * i := by omega
     have n44 : (4 * (i : Int) + 4).toNat = 4 * i + 4 := by omega
     have hdl : (q5e (dAt V (4 * i))).length = 32 := by rw [q5t, k9l V (by omega)]
     generalize hB1 : q5e (dAt V (4 * (i + 1))) = B1 at *
     generalize q5e (dAt V (4 * i)) = B0 at *
     generalize V.words.getD i 0 = x at *
     have hgE : ∀ h : i < V.row.length, V.row[i]'h = wv x := fun h => by rw [List.getElem?_eq_getElem h] at hg; exact Option.some.inj hg
     repeat' (first 
      | (with_reducible refine Does.xcall (hput) ?_)
      | (with_reducible refine And.intro (fun h => ?_) (fun h => ?_)) <;> (try (exfalso; omega))
      | ((with_reducible refine q51 ?_ fun hk => ?_); omega)
      | (simp -dsimp -implicitDefEqProofs [*]))
     subst hB1
     exact Next.intro (i + 1) (by omega) (by omega) (by simp) q5q
    ·have e : i = 8 := by omega
     subst e
     clear hi hwi hil
     have hdl : (q5e (dAt V (4 * 8))).length = 32 := by rw [q5t, k9l V (by omega)]
     have hend : q5e (dAt V 32) = q5e V.bytes := by rw [z60]
     have hall : q5i (q5e V.bytes) 0 (q5e V.bytes) = q5e V.bytes := q6e _ _ rfl
     have hB : (q5e V.bytes).length = 32 := rfl
     have hBs := sub_all hB
     generalize q5e V.bytes = B at *
     repeat' (simp -dsimp -implicitDefEqProofs [*])
end Go.Proofs.YtnooplpbpfiapaaGreatDoor
