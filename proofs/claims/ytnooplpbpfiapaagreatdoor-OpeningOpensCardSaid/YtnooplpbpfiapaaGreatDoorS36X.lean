/- Check. -/
import Derived.Test.YtnooplpbpfiapaaGreatDoorS36T
namespace Go.Proofs.YtnooplpbpfiapaaGreatDoor
open Go.Pv Go.Pv.Sha
set_option maxRecDepth 100000
set_option maxHeartbeats 4000000
theorem k4w (b : Nat) (n m : Int) (st : q37) : Defs P F.q0o [.ptr b 0] (.panicking (.iface T.apiErrno (.int n))) ((b, .arr T.apiErrno [.int m]) :: st) .returning ((b, .arr T.apiErrno [.int n]) :: st) := by
 have h := k11 b n m ((b, .arr T.apiErrno [.int m]) :: st) (by simp)
 simpa [q8i] using h
def chk (r e j : Int) (l : List Int) : Bool := q6o r e j && q7s l 1073741788
abbrev j8c (r e j : Int) (t : Bool) (l : List Int) (d : List (BitVec 8)) : PV := .agg (q6n r e j t l (q38 d))
theorem z41 (r e j : Int) (t : Bool) (l : List Int) (hl : l.length ≤ 100000) (d : List (BitVec 8)) (hd : d.length = 32) (st : q37) : Rets P F.q3c [j8c r e j t l d] st (.int (if chk r e j l then 0 else 340)) := by
 refine H.q3c.pure q4m rfl rfl ?_
 have hp1 : q6o r e j = true → ∀ st, Rets P F.q2c [.agg (.int r :: .int e :: .int j :: q4b t l :: q38 d)] st (.tuple []) := fun h st => j07 r e j t l (q38 d) h st
 have hp2 : q6o r e j = false → ∀ st, Panics P F.q2c [.agg (.int r :: .int e :: .int j :: q4b t l :: q38 d)] st (.iface T.apiErrno (.int 340)) := fun h st => j08 r e j t l (q38 d) h st
 have ha := fun st => k0m t l hl 1073741788 st
 have hdl : (q38 d).length = 32 := by simp [hd]
 have htk : List.take 32 (q38 d) = q38 d := List.take_of_length_le (by omega)
 generalize hR : (if chk r e j l then (0 : Int) else 340) = R
 unfold chk at hR
 generalize q6o r e j = A at *
 generalize q7s l 1073741788 = B at *
 cases A <;> cases B <;> simp only [Bool.and_true, Bool.and_false, Bool.false_eq_true, if_true, if_false] at hR <;> subst hR
 ·have hp3 := hp2 rfl
  clear hp1 hp2
  repeat' (first 
   | (with_reducible refine Fresh.intro fun b hb => ?_) <;> (try simp -dsimp -implicitDefEqProofs [*] at hb)
   | (with_reducible refine Panics.xcall (hp3 _) ?_)
   | (with_reducible refine Defs.xdef (k4w _ _ _ _) ?_)
   | (simp -dsimp -implicitDefEqProofs [q6n, H.q0o.enters, *]))
  repeat' (simp -dsimp -implicitDefEqProofs [q8e, *])
 ·have hp3 := hp2 rfl
  clear hp1 hp2
  repeat' (first 
   | (with_reducible refine Fresh.intro fun b hb => ?_) <;> (try simp -dsimp -implicitDefEqProofs [*] at hb)
   | (with_reducible refine Panics.xcall (hp3 _) ?_)
   | (with_reducible refine Defs.xdef (k4w _ _ _ _) ?_)
   | (simp -dsimp -implicitDefEqProofs [q6n, H.q0o.enters, *]))
  repeat' (simp -dsimp -implicitDefEqProofs [q8e, *])
 ·have hp3 := hp1 rfl
  clear hp1 hp2
  repeat' (first 
   | (with_reducible refine Fresh.intro fun b hb => ?_) <;> (try simp -dsimp -implicitDefEqProofs [*] at hb)
   | (with_reducible refine Rets.xcall (hp3 _) ?_)
   | (with_reducible refine Rets.xcall (ha _) ?_)
   | (with_reducible refine Panics.xcall (k1j _) ?_)
   | (with_reducible refine Defs.xdef (k4w _ _ _ _) ?_)
   | (simp -dsimp -implicitDefEqProofs [q6n, H.q0o.enters, *]))
  repeat' (simp -dsimp -implicitDefEqProofs [q8e, *])
 ·have hp3 := hp1 rfl
  clear hp1 hp2
  repeat' (first 
   | (with_reducible refine Fresh.intro fun b hb => ?_) <;> (try simp -dsimp -implicitDefEqProofs [*] at hb)
   | (with_reducible refine Rets.xcall (hp3 _) ?_)
   | (with_reducible refine Rets.xcall (ha _) ?_)
   | (with_reducible refine Rets.xcall (k4v _) ?_)
   | (with_reducible refine Defs.xdef (q94 _ _) ?_)
   | (simp -dsimp -implicitDefEqProofs [q6n, H.q0o.enters, *]))
open Go.Pv Go.Pv.Sha
set_option maxRecDepth 100000
set_option maxHeartbeats 4000000
theorem z8d (r e j : Int) (c : List PV) (h : q6o r e j = true) (st : q37) : Rets P F.q2c [.agg (.int r :: .int e :: .int j :: c)] st (.tuple []) := by
 refine H.q2c.pure q4m rfl rfl ?_
 simp [q6o] at h
 repeat' (first 
  | (with_reducible refine Fresh.intro fun b hb => ?_) <;> (try simp -dsimp -implicitDefEqProofs [*] at hb)
  | (with_reducible refine Rets.xcall (q7b _ _ _) ?_)
  | (with_reducible refine Rets.xcall (k4v _) ?_)
  | (simp -dsimp -implicitDefEqProofs [*]))
theorem k1m (t : Bool) (m : List Nat) : q4b t (m.map fun n : Nat => (n : Int)) = q9k t m := by
 show PV.list t (q43 _) _ = _
 rw [q43, List.map_map, List.length_map]
 rfl
theorem q45 {l : List Int} {most : Int} (h : q7s l most = true) : ∀ n ∈ l, 0 ≤ n ∧ n ≤ most := by
 intro n hn
 unfold q7s at h
 simp only [Bool.and_eq_true] at h
 have := List.all_eq_true.1 h.2 n hn
 simpa [wi] using this
theorem j8d (t u : Bool) (r e j : Nat) (m k : List Nat) (salt : List (BitVec 8)) (hs : salt.length = 32) (hp : q6o r e j = true) (h : Fit r e j m k (q6x salt)) (hmk : m.length = k.length)
  (hm : q7s (m.map fun n : Nat => (n : Int)) 1000 = true) (hk : q7s (k.map fun n : Nat => (n : Int)) 1073741788 = true) (st : q37) (h0 : q4n st 0 = some (.arr T.t8uint32 Sha.start.row)) (h1 : q4n st 1 = some q6d) :
  Rets P F.q27 [.int (r : Int), .int (e : Int), .int (j : Int), q9k t m, q9k u k, .agg (q38 salt)] st (.tuple [.agg (k32 r e j (q4b false (List.zipWith (fun x y => (x + y) % QI) (m.map fun n : Nat => (n : Int)) (k.map fun n : Nat => (n : Int)))) (q6h (q9r q6b) (k78 r e j m k (q6x salt)))), .int 0]) := by
 refine H.q27.pure q4m rfl rfl ?_
 have hp1 := fun c st => z8d r e j c hp st
 have hmM := fun st => k0m t (m.map fun n : Nat => (n : Int)) (by have := h.m1; simp; omega) 1000 st
 have hkK := fun st => k0m u (k.map fun n : Nat => (n : Int)) (by have := h.k1; simp; omega) 1073741788 st
 have hz : ∀ st, Rets P F.q05 [q9k t m, q9k u k, .func (.func F.q3f) [] []] st (q4b false (List.zipWith (fun x y => (x + y) % QI) (m.map fun n : Nat => (n : Int)) (k.map fun n : Nat => (n : Int)))) := fun st => by
  have h9 := z6v F.q3f (fun x y => (x + y) % QI) t u (m.map fun n : Nat => (n : Int)) (k.map fun n : Nat => (n : Int)) (by have := h.m1; simp; omega) (by simp [hmk]) (fun i hi st => by
   have b1 := q45 hm _ (List.getElem_mem hi)
   have b2 := q45 hk _ (List.getElem_mem (by simpa [hmk] using hi))
   exact z8b _ _ b1.1 (by omega) b2.1 (by omega) st) st
  rwa [k1m, k1m] at h9
 have hsl : (q38 salt).length = 32 := by simp [hs]
 have hsub := sub_all hsl
 have htk : List.take 32 (q38 salt) = q38 salt := List.take_of_length_le (by omega)
 have hc : ∀ st : q37, q4n st 0 = some (.arr T.t8uint32 Sha.start.row) → q4n st 1 = some q6d → Rets P F.q26 [.agg [.int r, .int e, .int j, .list false (q43 (List.zipWith (fun (a b : Nat) => ((a : Int) + (b : Int)) % QI) m k)) k.length, .val (.int .u8 0), .val (.int .u8 0), .val (.int .u8 0), .val (.int .u8 0), .val (.int .u8 0), .val (.int .u8 0), .val (.int .u8 0), .val (.int .u8 0), .val (.int .u8 0), .val (.int .u8 0), .val (.int .u8 0), .val (.int .u8 0), .val (.int .u8 0), .val (.int .u8 0), .val (.int .u8 0), .val (.int .u8 0), .val (.int .u8 0), .val (.int .u8 0), .val (.int .u8 0), .val (.int .u8 0), .val (.int .u8 0), .val (.int .u8 0), .val (.int .u8 0), .val (.int .u8 0), .val (.int .u8 0), .val (.int .u8 0), .val (.int .u8 0), .val (.int .u8 0), .val (.int .u8 0), .val (.int .u8 0), .val (.int .u8 0), .val (.int .u8 0)], q9k t m, q9k u k, .agg (q38 salt)] st (.agg (q38 (q6h (q9r q6b) (k78 r e j m k (q6x salt))))) := fun st h0 h1 =>
  k7q t u (.list false (q43 (List.zipWith (fun (a b : Nat) => ((a : Int) + (b : Int)) % QI) m k)) k.length) (List.replicate 32 0#8) salt rfl hs h st h0 h1
 have hD : (q38 (q6h (q9r q6b) (k78 r e j m k (q6x salt)))).length = 32 := rfl
 have hdub : ∀ a b c d : PV, sub (a :: b :: c :: d :: q38 (q6h (q9r q6b) (k78 r e j m k (q6x salt)))) 0 36 = some (a :: b :: c :: d :: q38 (q6h (q9r q6b) (k78 r e j m k (q6x salt)))) := fun a b c d => sub_all (by simp only [List.length_cons, hD])
 have htd : List.take 32 (q38 (q6h (q9r q6b) (k78 r e j m k (q6x salt)))) = q38 (q6h (q9r q6b) (k78 r e j m k (q6x salt))) := List.take_of_length_le (by omega)
 have hall : ∀ a b c d (L : List PV), L.length = 32 → q4a (a :: b :: c :: d :: L) 4 (q38 (q6h (q9r q6b) (k78 r e j m k (q6x salt)))) = a :: b :: c :: d :: q38 (q6h (q9r q6b) (k78 r e j m k (q6x salt))) := fun a b c d L h => by
  have h9 := q4q (q38 (q6h (q9r q6b) (k78 r e j m k (q6x salt)))) [a, b, c, d] L 0
  rw [q5e _ _ (hD.trans h.symm)] at h9
  exact h9
 generalize q6h (q9r q6b) (k78 r e j m k (q6x salt)) = D at *
 rw [hm, k1m] at hmM
 rw [hk, k1m] at hkK
 repeat' (first 
  | (with_reducible refine Fresh.intro fun b hb => ?_) <;> (try simp -dsimp -implicitDefEqProofs [*] at hb)
  | (with_reducible refine Rets.xcall (hp1 _ _) ?_)
  | (with_reducible refine Rets.xcall (hmM _) ?_)
  | (with_reducible refine Rets.xcall (hkK _) ?_)
  | (with_reducible refine Rets.xcall (k4v _) ?_)
  | (with_reducible refine Rets.xcall (hz _) ?_)
  | (simp -dsimp -implicitDefEqProofs [H.q0o.enters, *]))
 revert b
 intro y hy
 revert b
 intro z hz hy
 revert b
 intro p hp hz hy
 revert b
 intro q hq hp hz hy
 have y0 := (q48 hy.2.2.2 h0).1
 have y1 := (q48 hy.2.2.2 h1).1
 have z0 := (q48 hz.2.2 h0).1
 have z1 := (q48 hz.2.2 h1).1
 have p0 := (q48 hp.2 h0).1
 have p1 := (q48 hp.2 h1).1
 have q0 := (q48 hq h0).1
 have q1 := (q48 hq h1).1
 have hc' := fun R R1 R2 R3 => hc ((y, .arr T.apiSealed R) :: (z, .arr T.apiErrno R1) :: (p, .arr T.apiSealed R2) :: (q, .arr T.apiDigest R3) :: st) (by simp [y0, z0, p0, q0, h0]) (by simp [y1, z1, p1, q1, h1])
 clear hc
 repeat' (first 
  | (with_reducible refine Rets.xcall (hc' _ _ _ _) ?_)
  | (with_reducible refine Defs.xdef (q94 _ _) ?_)
  | (simp -dsimp -implicitDefEqProofs [H.q0o.enters, *]))
def y5c (r e j : Int) (m k : List Int) : Bool := q6o r e j && q7s m 1000 && q7s k 1073741788 && decide (m.length = k.length)
abbrev z32 : List (BitVec 8) := List.replicate 32 0#8
abbrev q5v : List PV := [.int 0, .int 0, .int 0, .nil, .val (.int .u8 0), .val (.int .u8 0), .val (.int .u8 0), .val (.int .u8 0), .val (.int .u8 0), .val (.int .u8 0), .val (.int .u8 0), .val (.int .u8 0), .val (.int .u8 0), .val (.int .u8 0), .val (.int .u8 0), .val (.int .u8 0), .val (.int .u8 0), .val (.int .u8 0), .val (.int .u8 0), .val (.int .u8 0), .val (.int .u8 0), .val (.int .u8 0), .val (.int .u8 0), .val (.int .u8 0), .val (.int .u8 0), .val (.int .u8 0), .val (.int .u8 0), .val (.int .u8 0), .val (.int .u8 0), .val (.int .u8 0), .val (.int .u8 0), .val (.int .u8 0), .val (.int .u8 0), .val (.int .u8 0), .val (.int .u8 0), .val (.int .u8 0)]
open Go.Pv Go.Pv.Sha
set_option maxRecDepth 100000
set_option maxHeartbeats 4000000
theorem y3b {a b : BitVec 8} : (a.toNat : Int) = b.toNat ↔ a = b := by
 constructor
 ·intro h
  exact BitVec.eq_of_toNat_eq (by omega)
 ·rintro rfl
  rfl
theorem k33 : ∀ (a b : List (BitVec 8)), a.length = b.length → q41 (List.replicate a.length .int) (q38 a) (q38 b) = some (decide (a = b))
 | [], [], _ => rfl
 | x :: a, y :: b, h => by
  have ih := k33 a b (by simpa using h)
  show (match q8c .int (bv x) (bv y), q41 (List.replicate a.length .int) (q38 a) (q38 b) with
   | some a, some b => some (a && b)
   | _, _ => none) = _
  rw [ih]
  have e : q8c .int (bv x) (bv y) = some (decide (x = y)) := by
   by_cases hxy : x = y
   ·simp [q8c, hxy]
   ·simp only [hxy, decide_false]
    simp [q8c]
    exact fun h => hxy (by simpa [u8, y3b] using h)
  rw [e]
  simp only [List.cons.injEq, Bool.decide_and]
theorem k7r (a b : List (BitVec 8)) (ha : a.length = 32) (hb : b.length = 32) : q41 [.int, .int, .int, .int, .int, .int, .int, .int, .int, .int, .int, .int, .int, .int, .int, .int, .int, .int, .int, .int, .int, .int, .int, .int, .int, .int, .int, .int, .int, .int, .int, .int] (q38 a) (q38 b) = some (decide (a = b)) := by
 have h := k33 a b (by omega)
 rw [ha] at h
 exact h
abbrev z42 (r e j : Int) (c : PV) (d : List (BitVec 8)) : PV := .agg (.int r :: .int e :: .int j :: c :: q38 d)
theorem j1e (r e j : Int) (t : Bool) (l : List Int) (hl : l.length ≤ 100000) (d : List (BitVec 8)) (hd : d.length = 32) (st : q37) : Rets P F.q3c [z42 r e j (q4b t l) d] st (.int (if chk r e j l then 0 else 340)) := z41 r e j t l hl d hd st
def q6i (r e j : Int) (c k : List Int) : Bool := chk r e j c && q7s k 1073741788 && decide (k.length = c.length)
def q95 (c k : List Int) : List Int := List.zipWith j8b c k
theorem k34 {l : List Int} {most : Int} (h : q7s l most = true) : 1 ≤ l.length ∧ l.length ≤ 64 := by
 unfold q7s at h
 simp only [Bool.and_eq_true, decide_eq_true_eq] at h
 exact h.1
theorem j1f (t u : Bool) (r e j : Int) (c k : List Int) (hc : c.length ≤ 100000) (hk : k.length ≤ 100000) (d : List (BitVec 8)) (hd : d.length = 32) (h : q6i r e j c k = true) (st : q37) :
  Rets P F.q3k [z42 r e j (q4b t c) d, q4b u k] st (q4b false (q95 c k)) := by
 refine H.q3k.pure q4m rfl rfl ?_
 have hC := fun st => j1e r e j t c hc d hd st
 have hK := fun st => k0m u k hk 1073741788 st
 simp only [q6i, Bool.and_eq_true, decide_eq_true_eq] at h
 obtain ⟨⟨h1, h2⟩, h3⟩ := h
 have h4 : q7s c 1073741788 = true := by
  unfold chk at h1
  simp only [Bool.and_eq_true] at h1
  exact h1.2
 have hz : ∀ st, Rets P F.q05 [q4b t c, q4b u k, .func (.func F.q3g) [] []] st (q4b false (q95 c k)) := fun st =>
  z6v F.q3g j8b t u c k (by have := k34 h4; omega) h3.symm (fun i hi st => by
   have b1 := q45 h4 _ (List.getElem_mem hi)
   have b2 := q45 h2 _ (List.getElem_mem (by rw [h3]; exact hi))
   exact z8c _ _ b1.1 (by omega) b2.1 (by omega) st) st
 rw [h1, if_pos rfl] at hC
 rw [h2] at hK
 have hdl : (q38 d).length = 32 := by simp [hd]
 have htk : List.take 32 (q38 d) = q38 d := List.take_of_length_le (by omega)
 clear h1 h2 h4
 repeat' (first 
  | (with_reducible refine Fresh.intro fun b hb => ?_) <;> (try simp -dsimp -implicitDefEqProofs [*] at hb)
  | (with_reducible refine Rets.xcall (hC _) ?_)
  | (with_reducible refine Rets.xcall (hK _) ?_)
  | (with_reducible refine Rets.xcall (k4v _) ?_)
  | (with_reducible refine Rets.xcall (hz _) ?_)
  | (simp -dsimp -implicitDefEqProofs [*]))
theorem j1g (t u : Bool) (r e j : Int) (c k : List Int) (hc : c.length ≤ 100000) (hk : k.length ≤ 100000) (d : List (BitVec 8)) (hd : d.length = 32) (h : q6i r e j c k = false) (st : q37) :
  Panics P F.q3k [z42 r e j (q4b t c) d, q4b u k] st (.iface T.apiErrno (.int 340)) := by
 refine H.q3k.panics q4m rfl rfl ?_
 have hC := fun st => j1e r e j t c hc d hd st
 have hK := fun st => k0m u k hk 1073741788 st
 unfold q6i at h
 have hdl : (q38 d).length = 32 := by simp [hd]
 have htk : List.take 32 (q38 d) = q38 d := List.take_of_length_le (by omega)
 generalize chk r e j c = A at *
 generalize q7s k 1073741788 = B at *
 cases A
 ·repeat' (first 
   | (with_reducible refine Fresh.intro fun b hb => ?_) <;> (try simp -dsimp -implicitDefEqProofs [*] at hb)
   | (with_reducible refine Rets.xcall (hC _) ?_)
   | (with_reducible refine Panics.xcall (k1j _) ?_)
   | (simp -dsimp -implicitDefEqProofs [*]))
 cases B
 ·repeat' (first 
   | (with_reducible refine Fresh.intro fun b hb => ?_) <;> (try simp -dsimp -implicitDefEqProofs [*] at hb)
   | (with_reducible refine Rets.xcall (hC _) ?_)
   | (with_reducible refine Rets.xcall (hK _) ?_)
   | (with_reducible refine Panics.xcall (k1j _) ?_)
   | (simp -dsimp -implicitDefEqProofs [*]))
 ·have h' : ¬ k.length = c.length := by simpa using h
  clear h
  have h8 : decide ((k.length : Int) = (c.length : Int)) = false := by simp; omega
  repeat' (first 
   | (with_reducible refine Fresh.intro fun b hb => ?_) <;> (try simp -dsimp -implicitDefEqProofs [*] at hb)
   | (with_reducible refine Rets.xcall (hC _) ?_)
   | (with_reducible refine Rets.xcall (hK _) ?_)
   | (with_reducible refine Panics.xcall (k1j _) ?_)
   | (simp -dsimp -implicitDefEqProofs [*]))
theorem k7s {l : List Int} (h : ∀ n ∈ l, 0 ≤ n) : (l.map Int.toNat).map (fun n : Nat => (n : Int)) = l := by
 rw [List.map_map]
 conv => rhs; rw [← List.map_id l]
 exact List.map_congr_left fun n hn => Int.toNat_of_nonneg (h n hn)
structure Right (r e j : Int) (m k : List Int) : Prop where
 hp : q6o r e j = true
 hm : q7s m 1000 = true
 hk : q7s k 1073741788 = true
theorem z1c {r e j : Int} (h : q6o r e j = true) : (0 ≤ r ∧ r ≤ 7) ∧ (0 ≤ e ∧ e ≤ 4095) ∧ (0 ≤ j ∧ j ≤ 255) := by
 simpa [q6o, wi, and_assoc] using h
theorem Right.fit {r e j : Int} {m k : List Int} (h : Right r e j m k) {salt : List (BitVec 8)} (hs : salt.length = 32) : Fit r.toNat e.toNat j.toNat (m.map Int.toNat) (k.map Int.toNat) (q6x salt) := by
 have h1 := z1c h.hp
 have hm := q45 h.hm
 have hk := q45 h.hk
 have lm := k34 h.hm
 have lk := k34 h.hk
 refine ⟨by unfold BIG; omega, by unfold BIG; omega, by unfold BIG; omega, ?_, ?_, by simp; omega, by simp; omega, by simp; omega, by simp; omega, by rw [z79]; omega⟩
 ·intro n hn
  obtain ⟨x, hx, rfl⟩ := List.mem_map.1 hn
  have := hm x hx
  unfold BIG; omega
 ·intro n hn
  obtain ⟨x, hx, rfl⟩ := List.mem_map.1 hn
  have := hk x hx
  unfold BIG; omega
def comI (r e j : Int) (m k : List Int) (salt : List (BitVec 8)) : List (BitVec 8) := k78 r.toNat e.toNat j.toNat (m.map Int.toNat) (k.map Int.toNat) (q6x salt)
def j6f (r e j : Int) (m k : List Int) (salt : List (BitVec 8)) : List (BitVec 8) := q6h (q9r q6b) (comI r e j m k salt)
theorem k35 (t : Bool) {l : List Int} (h : ∀ n ∈ l, 0 ≤ n) : q9k t (l.map Int.toNat) = q4b t l := by
 rw [← k1m, k7s h]
theorem j8e (t u : Bool) {r e j : Int} {m k : List Int} (c : PV) (d salt : List (BitVec 8)) (hd : d.length = 32) (hs : salt.length = 32) (h : Right r e j m k) (st : q37) (h0 : q4n st 0 = some (.arr T.t8uint32 Sha.start.row)) (h1 : q4n st 1 = some q6d) :
  Rets P F.q26 [z42 r e j c d, q4b t m, q4b u k, .agg (q38 salt)] st (.agg (q38 (j6f r e j m k salt))) := by
 have h9 := k7q t u c d salt hd hs (h.fit hs) st h0 h1
 have h2 := z1c h.hp
 rwa [k35 t fun n hn => (q45 h.hm n hn).1, k35 u fun n hn => (q45 h.hk n hn).1, k32, Int.toNat_of_nonneg h2.1.1, Int.toNat_of_nonneg h2.2.1.1, Int.toNat_of_nonneg h2.2.2.1] at h9
def q8l (m k : List Int) : List Int := List.zipWith (fun x y => (x + y) % QI) m k
theorem z6w (t u : Bool) {r e j : Int} {m k : List Int} (salt : List (BitVec 8)) (hs : salt.length = 32) (h : y5c r e j m k = true) (st : q37) (h0 : q4n st 0 = some (.arr T.t8uint32 Sha.start.row)) (h1 : q4n st 1 = some q6d) :
  Rets P F.q27 [.int r, .int e, .int j, q4b t m, q4b u k, .agg (q38 salt)] st (.tuple [z42 r e j (q4b false (q8l m k)) (j6f r e j m k salt), .int 0]) := by
 simp only [y5c, Bool.and_eq_true, decide_eq_true_eq] at h
 obtain ⟨⟨⟨a1, a2⟩, a3⟩, a4⟩ := h
 have hr : Right r e j m k := ⟨a1, a2, a3⟩
 have h2 := z1c a1
 have em := k7s fun n hn => (q45 a2 n hn).1
 have ek := k7s fun n hn => (q45 a3 n hn).1
 have h9 := j8d t u r.toNat e.toNat j.toNat (m.map Int.toNat) (k.map Int.toNat) salt hs (by rw [Int.toNat_of_nonneg h2.1.1, Int.toNat_of_nonneg h2.2.1.1, Int.toNat_of_nonneg h2.2.2.1]; exact a1) (hr.fit hs) (by simpa using a4) (by rw [em]; exact a2) (by rw [ek]; exact a3) st h0 h1
 rwa [k35 t fun n hn => (q45 a2 n hn).1, k35 u fun n hn => (q45 a3 n hn).1, em, ek, k32, Int.toNat_of_nonneg h2.1.1, Int.toNat_of_nonneg h2.2.1.1, Int.toNat_of_nonneg h2.2.2.1] at h9
def k79 : Option (List Int) → PV
 | none => .nil
 | some l => q4b false l
def q9l (r e j : Int) (c k : List Int) : Option (List Int) := if q6i r e j c k && q7s (q95 c k) 1000 then some (q95 c k) else none
def y3c {α : Type} : Option α → Int
 | none => 340
 | some _ => 0
theorem z6x {c k : List Int} (hk : k.length ≤ 100000) : (q95 c k).length ≤ 100000 := by simp [q95]; omega
theorem z8e (t u : Bool) (r e j : Int) (c k : List Int) (hc : c.length ≤ 100000) (hk : k.length ≤ 100000) (d : List (BitVec 8)) (hd : d.length = 32) (st : q37) :
  Rets P F.q3p [z42 r e j (q4b t c) d, q4b u k] st (.tuple [k79 (q9l r e j c k), .int (y3c (q9l r e j c k))]) := by
 refine H.q3p.pure q4m rfl rfl ?_
 have hB1 := fun (h : q6i r e j c k = true) st => j1f t u r e j c k hc hk d hd h st
 have hB2 := fun (h : q6i r e j c k = false) st => j1g t u r e j c k hc hk d hd h st
 have hM := fun st => k0m false (q95 c k) (z6x hk) 1000 st
 have hdl : (q38 d).length = 32 := by simp [hd]
 have htk : List.take 32 (q38 d) = q38 d := List.take_of_length_le (by omega)
 generalize hR : PV.tuple [k79 (q9l r e j c k), .int (y3c (q9l r e j c k))] = R
 unfold q9l at hR
 generalize q6i r e j c k = A at *
 generalize q95 c k = M at *
 generalize q7s M 1000 = B at *
 cases A
 ·have hB := hB2 rfl
  clear hB1 hB2
  have hR' : R = .tuple [.nil, .int 340] := hR.symm
  clear hR
  subst hR'
  repeat' (first 
   | (with_reducible refine Fresh.intro fun b hb => ?_) <;> (try simp -dsimp -implicitDefEqProofs [*] at hb)
   | (with_reducible refine Panics.xcall (hB _) ?_)
   | (with_reducible refine Defs.xdef (k11 _ _ 0 _ (by simp [*])) ?_)
   | (simp -dsimp -implicitDefEqProofs [H.q0o.enters, *]))
  repeat' (simp -dsimp -implicitDefEqProofs [q8e, *])
 have hB := hB1 rfl
 clear hB1 hB2
 cases B
 ·have hR' : R = .tuple [.nil, .int 340] := hR.symm
  clear hR
  subst hR'
  repeat' (first 
   | (with_reducible refine Fresh.intro fun b hb => ?_) <;> (try simp -dsimp -implicitDefEqProofs [*] at hb)
   | (with_reducible refine Rets.xcall (hB _) ?_)
   | (with_reducible refine Rets.xcall (hM _) ?_)
   | (with_reducible refine Panics.xcall (k1j _) ?_)
   | (with_reducible refine Defs.xdef (k11 _ _ 0 _ (by simp [*])) ?_)
   | (simp -dsimp -implicitDefEqProofs [H.q0o.enters, *]))
  repeat' (simp -dsimp -implicitDefEqProofs [q8e, *])
 ·have hR' : R = .tuple [q4b false M, .int 0] := hR.symm
  clear hR
  subst hR'
  repeat' (first 
   | (with_reducible refine Fresh.intro fun b hb => ?_) <;> (try simp -dsimp -implicitDefEqProofs [*] at hb)
   | (with_reducible refine Rets.xcall (hB _) ?_)
   | (with_reducible refine Rets.xcall (hM _) ?_)
   | (with_reducible refine Rets.xcall (k4v _) ?_)
   | (with_reducible refine Defs.xdef (q94 _ _) ?_)
   | (simp -dsimp -implicitDefEqProofs [H.q0o.enters, *]))
def Snew (st : q37) (b : Nat) : Prop := q5p st b
theorem q46 {st : q37} {o o' : PObj} (h0 : q4n st 0 = some o) (h1 : q4n st 1 = some o') (b : Nat) : q5p st b = ((¬ 0 = b ∧ ¬ b = 0) ∧ (¬ 1 = b ∧ ¬ b = 1) ∧ Snew st b) := by
 refine propext ⟨fun h => ?_, fun h => h.2.2⟩
 have a := (q48 h h0).1
 have c := (q48 h h1).1
 exact ⟨⟨fun e => a e.symm, a⟩, ⟨fun e => c e.symm, c⟩, h⟩
def z1d (r e j : Int) (c : List Int) (d : List (BitVec 8)) (k : List Int) (salt : List (BitVec 8)) : Option (List Int) := if q6i r e j c k && q7s (q95 c k) 1000 && decide (j6f r e j (q95 c k) k salt = d) then some (q95 c k) else none
theorem z27 (t u : Bool) (r e j : Int) (c k : List Int) (hc : c.length ≤ 100000) (hk : k.length ≤ 100000) (d salt : List (BitVec 8)) (hd : d.length = 32) (hs : salt.length = 32) (st : q37) (h0 : q4n st 0 = some (.arr T.t8uint32 Sha.start.row)) (h1 : q4n st 1 = some q6d) :
  Rets P F.q3m [z42 r e j (q4b t c) d, q4b u k, .agg (q38 salt)] st (.tuple [k79 (z1d r e j c d k salt), .bool (z1d r e j c d k salt).isSome, .int (if q6i r e j c k then 0 else 340)]) := by
 refine H.q3m.pure q4m rfl rfl ?_
 have hB1 := fun (h : q6i r e j c k = true) st => j1f t u r e j c k hc hk d hd h st
 have hB2 := fun (h : q6i r e j c k = false) st => j1g t u r e j c k hc hk d hd h st
 have hM := fun st => k0m false (q95 c k) (z6x hk) 1000 st
 have hdl : (q38 d).length = 32 := by simp [hd]
 have htk : List.take 32 (q38 d) = q38 d := List.take_of_length_le (by omega)
 have hsl : (q38 salt).length = 32 := by simp [hs]
 have hts : List.take 32 (q38 salt) = q38 salt := List.take_of_length_le (by omega)
 have hC := fun (h2 : q6i r e j c k = true) (h3 : q7s (q95 c k) 1000 = true) => j8e false u (m := q95 c k) (q4b t c) d salt hd hs (by
  simp only [q6i, chk, Bool.and_eq_true] at h2
  exact ⟨h2.1.1.1, h3, h2.1.2⟩)
 have hQ := k7r (j6f r e j (q95 c k) k salt) d rfl hd
 generalize hR : PV.tuple [k79 (z1d r e j c d k salt), .bool (z1d r e j c d k salt).isSome, .int (if q6i r e j c k then 0 else 340)] = R
 unfold z1d at hR
 generalize j6f r e j (q95 c k) k salt = D at *
 generalize q6i r e j c k = A at *
 generalize q95 c k = M at *
 generalize q7s M 1000 = B at *
 cases A
 ·have hB := hB2 rfl
  clear hB1 hB2 hC
  have hR' : R = .tuple [.nil, .bool false, .int 340] := hR.symm
  clear hR
  subst hR'
  repeat' (first 
   | (with_reducible refine Fresh.intro fun b hb => ?_) <;> (try simp -dsimp -implicitDefEqProofs [*] at hb)
   | (with_reducible refine Panics.xcall (hB _) ?_)
   | (with_reducible refine Defs.xdef (k11 _ _ 0 _ (by simp [*])) ?_)
   | (simp -dsimp -implicitDefEqProofs [H.q0o.enters, *]))
  repeat' (simp -dsimp -implicitDefEqProofs [q8e, *])
 have hB := hB1 rfl
 clear hB1 hB2
 cases B
 ·clear hC
  have hR' : R = .tuple [.nil, .bool false, .int 0] := hR.symm
  clear hR
  subst hR'
  repeat' (first 
   | (with_reducible refine Fresh.intro fun b hb => ?_) <;> (try simp -dsimp -implicitDefEqProofs [*] at hb)
   | (with_reducible refine Rets.xcall (hB _) ?_)
   | (with_reducible refine Rets.xcall (hM _) ?_)
   | (with_reducible refine Defs.xdef (q94 _ _) ?_)
   | (with_reducible refine DrawLate.intro [] ?_)
   | (simp -dsimp -implicitDefEqProofs [H.q0o.enters, *]))
 ·have hC1 := hC rfl rfl
  clear hC
  simp only [Bool.true_and, if_true] at hR
  have hN := q46 h0 h1
  have hsub := sub_all hsl
  repeat' (first 
   | (with_reducible refine Fresh.intro fun b hb => ?_) <;> (try simp -dsimp -implicitDefEqProofs [*] at hb)
   | (with_reducible refine Rets.xcall (hB _) ?_)
   | (with_reducible refine Rets.xcall (hM _) ?_)
   | (with_reducible refine Rets.xcall (hC1 _ (by simp [*]) (by simp [*])) ?_)
   | (with_reducible refine Defs.xdef (q94 _ _) ?_)
   | (with_reducible refine DrawLate.intro [] ?_)
   | (with_reducible refine And.intro (fun h => ?_) (fun h => ?_)) <;> (try (exfalso; omega))
   | (simp -dsimp -implicitDefEqProofs [H.q0o.enters, *]))
  all_goals (rw [← hR]; simp [*, k79])
end Go.Proofs.YtnooplpbpfiapaaGreatDoor
