/- Check. -/
import Derived.Test.YtnooplpbpfiapaaGreatDoorS36T
namespace Go.Proofs.YtnooplpbpfiapaaGreatDoor
open Go.Pv Go.Pv.Sha
set_option maxRecDepth 100000
set_option maxHeartbeats 4000000
theorem k6l (b : Nat) (n m : Int) (st : q43) : Defs P F.q0q [.ptr b 0] (.panicking (.iface T.apiErrno (.int n))) ((b, .arr T.apiErrno [.int m]) :: st) .returning ((b, .arr T.apiErrno [.int n]) :: st) := by
 have h := k3p b n m ((b, .arr T.apiErrno [.int m]) :: st) (by simp)
 simpa [q9x] using h
def chk (r e j : Int) (l : List Int) : Bool := q7n r e j && q6x l 1073741788
abbrev j3b (r e j : Int) (t : Bool) (l : List Int) (d : List (BitVec 8)) : PV := .agg (q6w r e j t l (q44 d))
theorem z0g (r e j : Int) (t : Bool) (l : List Int) (hl : l.length ≤ 100000) (d : List (BitVec 8)) (st : q43) : Rets P F.q17 [j3b r e j t l d] st (.int (if chk r e j l then 0 else 340)) := by
 refine H.q17.pure q5d rfl rfl ?_
 have hp := fun st => z27 r e j st
 have hk := fun st => k3a t l hl st
 generalize hR : (if chk r e j l then (0 : Int) else 340) = R
 unfold chk at hR
 generalize q7n r e j = A at *
 generalize q6x l 1073741788 = B at *
 cases A <;> cases B <;> simp only [Bool.and_true, Bool.and_false, Bool.false_eq_true, if_true, if_false] at hR <;> subst hR
 ·repeat' (first 
   | (with_reducible refine Fresh.intro fun b hb => ?_) <;> (try simp -dsimp -implicitDefEqProofs [*] at hb)
   | (with_reducible refine Rets.xcall (hp _) ?_)
   | (simp -dsimp -implicitDefEqProofs [q6w, *]))
 ·repeat' (first 
   | (with_reducible refine Fresh.intro fun b hb => ?_) <;> (try simp -dsimp -implicitDefEqProofs [*] at hb)
   | (with_reducible refine Rets.xcall (hp _) ?_)
   | (simp -dsimp -implicitDefEqProofs [q6w, *]))
 ·repeat' (first 
   | (with_reducible refine Fresh.intro fun b hb => ?_) <;> (try simp -dsimp -implicitDefEqProofs [*] at hb)
   | (with_reducible refine Rets.xcall (hp _) ?_)
   | (with_reducible refine Rets.xcall (hk _) ?_)
   | (simp -dsimp -implicitDefEqProofs [q6w, *]))
 ·repeat' (first 
   | (with_reducible refine Fresh.intro fun b hb => ?_) <;> (try simp -dsimp -implicitDefEqProofs [*] at hb)
   | (with_reducible refine Rets.xcall (hp _) ?_)
   | (with_reducible refine Rets.xcall (hk _) ?_)
   | (simp -dsimp -implicitDefEqProofs [q6w, *]))
theorem z62 (r e j : Int) (t : Bool) (l : List Int) (hl : l.length ≤ 100000) (d : List (BitVec 8)) (hd : d.length = 32) (st : q43) : Rets P F.q37 [j3b r e j t l d] st (.int (if chk r e j l then 0 else 340)) := by
 refine H.q37.pure q5d rfl rfl ?_
 have hp1 : q7n r e j = true → ∀ st, Rets P F.q2g [.agg (.int r :: .int e :: .int j :: q49 t l :: q44 d)] st (.tuple []) := fun h st => j25 r e j t l (q44 d) h st
 have hp2 : q7n r e j = false → ∀ st, Panics P F.q2g [.agg (.int r :: .int e :: .int j :: q49 t l :: q44 d)] st (.iface T.apiErrno (.int 340)) := fun h st => j26 r e j t l (q44 d) h st
 have ha := fun st => k18 t l hl 1073741788 st
 have hdl : (q44 d).length = 32 := by simp [hd]
 have htk : List.take 32 (q44 d) = q44 d := List.take_of_length_le (by omega)
 generalize hR : (if chk r e j l then (0 : Int) else 340) = R
 unfold chk at hR
 generalize q7n r e j = A at *
 generalize q6x l 1073741788 = B at *
 cases A <;> cases B <;> simp only [Bool.and_true, Bool.and_false, Bool.false_eq_true, if_true, if_false] at hR <;> subst hR
 ·have hp3 := hp2 rfl
  clear hp1 hp2
  repeat' (first 
   | (with_reducible refine Fresh.intro fun b hb => ?_) <;> (try simp -dsimp -implicitDefEqProofs [*] at hb)
   | (with_reducible refine Panics.xcall (hp3 _) ?_)
   | (with_reducible refine Defs.xdef (k6l _ _ _ _) ?_)
   | (simp -dsimp -implicitDefEqProofs [q6w, H.q0q.enters, *]))
  repeat' (simp -dsimp -implicitDefEqProofs [q9o, *])
 ·have hp3 := hp2 rfl
  clear hp1 hp2
  repeat' (first 
   | (with_reducible refine Fresh.intro fun b hb => ?_) <;> (try simp -dsimp -implicitDefEqProofs [*] at hb)
   | (with_reducible refine Panics.xcall (hp3 _) ?_)
   | (with_reducible refine Defs.xdef (k6l _ _ _ _) ?_)
   | (simp -dsimp -implicitDefEqProofs [q6w, H.q0q.enters, *]))
  repeat' (simp -dsimp -implicitDefEqProofs [q9o, *])
 ·have hp3 := hp1 rfl
  clear hp1 hp2
  repeat' (first 
   | (with_reducible refine Fresh.intro fun b hb => ?_) <;> (try simp -dsimp -implicitDefEqProofs [*] at hb)
   | (with_reducible refine Rets.xcall (hp3 _) ?_)
   | (with_reducible refine Rets.xcall (ha _) ?_)
   | (with_reducible refine Panics.xcall (k27 _) ?_)
   | (with_reducible refine Defs.xdef (k6l _ _ _ _) ?_)
   | (simp -dsimp -implicitDefEqProofs [q6w, H.q0q.enters, *]))
  repeat' (simp -dsimp -implicitDefEqProofs [q9o, *])
 ·have hp3 := hp1 rfl
  clear hp1 hp2
  repeat' (first 
   | (with_reducible refine Fresh.intro fun b hb => ?_) <;> (try simp -dsimp -implicitDefEqProofs [*] at hb)
   | (with_reducible refine Rets.xcall (hp3 _) ?_)
   | (with_reducible refine Rets.xcall (ha _) ?_)
   | (with_reducible refine Rets.xcall (k6j _) ?_)
   | (with_reducible refine Defs.xdef (k1l _ _) ?_)
   | (simp -dsimp -implicitDefEqProofs [q6w, H.q0q.enters, *]))
open Go.Pv Go.Pv.Sha
set_option maxRecDepth 100000
set_option maxHeartbeats 4000000
theorem z98 (r e j : Int) (c : List PV) (h : q7n r e j = true) (st : q43) : Rets P F.q2g [.agg (.int r :: .int e :: .int j :: c)] st (.tuple []) := by
 refine H.q2g.pure q5d rfl rfl ?_
 simp [q7n] at h
 repeat' (first 
  | (with_reducible refine Fresh.intro fun b hb => ?_) <;> (try simp -dsimp -implicitDefEqProofs [*] at hb)
  | (with_reducible refine Rets.xcall (q8n _ _ _) ?_)
  | (with_reducible refine Rets.xcall (k6j _) ?_)
  | (simp -dsimp -implicitDefEqProofs [*]))
theorem k3b (t : Bool) (m : List Nat) : q49 t (m.map fun n : Nat => (n : Int)) = q70 t m := by
 show PV.list t (q59 _) _ = _
 rw [q59, List.map_map, List.length_map]
 rfl
theorem q5w {l : List Int} {most : Int} (h : q6x l most = true) : ∀ n ∈ l, 0 ≤ n ∧ n ≤ most := by
 intro n hn
 unfold q6x at h
 simp only [Bool.and_eq_true] at h
 have := List.all_eq_true.1 h.2 n hn
 simpa [wi] using this
theorem j94 (t u : Bool) (r e j : Nat) (m k : List Nat) (salt : List (BitVec 8)) (hs : salt.length = 32) (hp : q7n r e j = true) (h : Fit r e j m k (q7s salt)) (hmk : m.length = k.length)
  (hm : q6x (m.map fun n : Nat => (n : Int)) 1000 = true) (hk : q6x (k.map fun n : Nat => (n : Int)) 1073741788 = true) (st : q43) (h0 : q5m st 0 = some (.arr T.t8uint32 Sha.start.row)) (h1 : q5m st 1 = some q8z) :
  Rets P F.q4l [.int (r : Int), .int (e : Int), .int (j : Int), q70 t m, q70 u k, .agg (q44 salt)] st (.tuple [.agg (k5q r e j (q49 false (List.zipWith (fun x y => (x + y) % QI) (m.map fun n : Nat => (n : Int)) (k.map fun n : Nat => (n : Int)))) (q66 (q8c q7j) (k7t r e j m k (q7s salt)))), .int 0]) := by
 refine H.q4l.pure q5d rfl rfl ?_
 have hp1 := fun c st => z98 r e j c hp st
 have hmM := fun st => k18 t (m.map fun n : Nat => (n : Int)) (by have := h.m1; simp; omega) 1000 st
 have hkK := fun st => k18 u (k.map fun n : Nat => (n : Int)) (by have := h.k1; simp; omega) 1073741788 st
 have hz : ∀ st, Rets P F.q1a [q70 t m, q70 u k, .func (.func F.q4b) [] []] st (q49 false (List.zipWith (fun x y => (x + y) % QI) (m.map fun n : Nat => (n : Int)) (k.map fun n : Nat => (n : Int)))) := fun st => by
  have h9 := z8n F.q4b (fun x y => (x + y) % QI) t u (m.map fun n : Nat => (n : Int)) (k.map fun n : Nat => (n : Int)) (by have := h.m1; simp; omega) (by simp [hmk]) (fun i hi st => by
   have b1 := q5w hm _ (List.getElem_mem hi)
   have b2 := q5w hk _ (List.getElem_mem (by simpa [hmk] using hi))
   exact z96 _ _ b1.1 (by omega) b2.1 (by omega) st) st
  rwa [k3b, k3b] at h9
 have hsl : (q44 salt).length = 32 := by simp [hs]
 have hsub := sub_all hsl
 have htk : List.take 32 (q44 salt) = q44 salt := List.take_of_length_le (by omega)
 have hc : ∀ st : q43, q5m st 0 = some (.arr T.t8uint32 Sha.start.row) → q5m st 1 = some q8z → Rets P F.q31 [.agg [.int r, .int e, .int j, .list false (q59 (List.zipWith (fun (a b : Nat) => ((a : Int) + (b : Int)) % QI) m k)) k.length, .val (.int .u8 0), .val (.int .u8 0), .val (.int .u8 0), .val (.int .u8 0), .val (.int .u8 0), .val (.int .u8 0), .val (.int .u8 0), .val (.int .u8 0), .val (.int .u8 0), .val (.int .u8 0), .val (.int .u8 0), .val (.int .u8 0), .val (.int .u8 0), .val (.int .u8 0), .val (.int .u8 0), .val (.int .u8 0), .val (.int .u8 0), .val (.int .u8 0), .val (.int .u8 0), .val (.int .u8 0), .val (.int .u8 0), .val (.int .u8 0), .val (.int .u8 0), .val (.int .u8 0), .val (.int .u8 0), .val (.int .u8 0), .val (.int .u8 0), .val (.int .u8 0), .val (.int .u8 0), .val (.int .u8 0), .val (.int .u8 0), .val (.int .u8 0)], q70 t m, q70 u k, .agg (q44 salt)] st (.agg (q44 (q66 (q8c q7j) (k7t r e j m k (q7s salt))))) := fun st h0 h1 =>
  k9f t u (.list false (q59 (List.zipWith (fun (a b : Nat) => ((a : Int) + (b : Int)) % QI) m k)) k.length) (List.replicate 32 0#8) salt rfl hs h st h0 h1
 have hD : (q44 (q66 (q8c q7j) (k7t r e j m k (q7s salt)))).length = 32 := rfl
 have hdub : ∀ a b c d : PV, sub (a :: b :: c :: d :: q44 (q66 (q8c q7j) (k7t r e j m k (q7s salt)))) 0 36 = some (a :: b :: c :: d :: q44 (q66 (q8c q7j) (k7t r e j m k (q7s salt)))) := fun a b c d => sub_all (by simp only [List.length_cons, hD])
 have htd : List.take 32 (q44 (q66 (q8c q7j) (k7t r e j m k (q7s salt)))) = q44 (q66 (q8c q7j) (k7t r e j m k (q7s salt))) := List.take_of_length_le (by omega)
 have hall : ∀ a b c d (L : List PV), L.length = 32 → q48 (a :: b :: c :: d :: L) 4 (q44 (q66 (q8c q7j) (k7t r e j m k (q7s salt)))) = a :: b :: c :: d :: q44 (q66 (q8c q7j) (k7t r e j m k (q7s salt))) := fun a b c d L h => by
  have h9 := q5t (q44 (q66 (q8c q7j) (k7t r e j m k (q7s salt)))) [a, b, c, d] L 0
  rw [q53 _ _ (hD.trans h.symm)] at h9
  exact h9
 generalize q66 (q8c q7j) (k7t r e j m k (q7s salt)) = D at *
 rw [hm, k3b] at hmM
 rw [hk, k3b] at hkK
 repeat' (first 
  | (with_reducible refine Fresh.intro fun b hb => ?_) <;> (try simp -dsimp -implicitDefEqProofs [*] at hb)
  | (with_reducible refine Rets.xcall (hp1 _ _) ?_)
  | (with_reducible refine Rets.xcall (hmM _) ?_)
  | (with_reducible refine Rets.xcall (hkK _) ?_)
  | (with_reducible refine Rets.xcall (k6j _) ?_)
  | (with_reducible refine Rets.xcall (hz _) ?_)
  | (simp -dsimp -implicitDefEqProofs [H.q0q.enters, *]))
 revert b
 intro y hy
 revert b
 intro z hz hy
 revert b
 intro p hp hz hy
 revert b
 intro q hq hp hz hy
 have y0 := (q6a hy.2.2.2 h0).1
 have y1 := (q6a hy.2.2.2 h1).1
 have z0 := (q6a hz.2.2 h0).1
 have z1 := (q6a hz.2.2 h1).1
 have p0 := (q6a hp.2 h0).1
 have p1 := (q6a hp.2 h1).1
 have q0 := (q6a hq h0).1
 have q1 := (q6a hq h1).1
 have hc' := fun R R1 R2 R3 => hc ((y, .arr T.apiSealed R) :: (z, .arr T.apiErrno R1) :: (p, .arr T.apiSealed R2) :: (q, .arr T.apiDigest R3) :: st) (by simp [y0, z0, p0, q0, h0]) (by simp [y1, z1, p1, q1, h1])
 clear hc
 repeat' (first 
  | (with_reducible refine Rets.xcall (hc' _ _ _ _) ?_)
  | (with_reducible refine Defs.xdef (k1l _ _) ?_)
  | (simp -dsimp -implicitDefEqProofs [H.q0q.enters, *]))
def y6y (r e j : Int) (m k : List Int) : Bool := q7n r e j && q6x m 1000 && q6x k 1073741788 && decide (m.length = k.length)
abbrev z32 : List (BitVec 8) := List.replicate 32 0#8
abbrev k19 : List PV := [.int 0, .int 0, .int 0, .nil, .val (.int .u8 0), .val (.int .u8 0), .val (.int .u8 0), .val (.int .u8 0), .val (.int .u8 0), .val (.int .u8 0), .val (.int .u8 0), .val (.int .u8 0), .val (.int .u8 0), .val (.int .u8 0), .val (.int .u8 0), .val (.int .u8 0), .val (.int .u8 0), .val (.int .u8 0), .val (.int .u8 0), .val (.int .u8 0), .val (.int .u8 0), .val (.int .u8 0), .val (.int .u8 0), .val (.int .u8 0), .val (.int .u8 0), .val (.int .u8 0), .val (.int .u8 0), .val (.int .u8 0), .val (.int .u8 0), .val (.int .u8 0), .val (.int .u8 0), .val (.int .u8 0), .val (.int .u8 0), .val (.int .u8 0), .val (.int .u8 0), .val (.int .u8 0)]
open Go.Pv Go.Pv.Sha
set_option maxRecDepth 100000
set_option maxHeartbeats 4000000
theorem y40 {a b : BitVec 8} : (a.toNat : Int) = b.toNat ↔ a = b := by
 constructor
 ·intro h
  exact BitVec.eq_of_toNat_eq (by omega)
 ·rintro rfl
  rfl
theorem k5r : ∀ (a b : List (BitVec 8)), a.length = b.length → q52 (List.replicate a.length .int) (q44 a) (q44 b) = some (decide (a = b))
 | [], [], _ => rfl
 | x :: a, y :: b, h => by
  have ih := k5r a b (by simpa using h)
  show (match q9m .int (bv x) (bv y), q52 (List.replicate a.length .int) (q44 a) (q44 b) with
   | some a, some b => some (a && b)
   | _, _ => none) = _
  rw [ih]
  have e : q9m .int (bv x) (bv y) = some (decide (x = y)) := by
   by_cases hxy : x = y
   ·simp [q9m, hxy]
   ·simp only [hxy, decide_false]
    simp [q9m]
    exact fun h => hxy (by simpa [u8, y40] using h)
  rw [e]
  simp only [List.cons.injEq, Bool.decide_and]
theorem k5s (a b : List (BitVec 8)) (ha : a.length = 32) (hb : b.length = 32) : q52 [.int, .int, .int, .int, .int, .int, .int, .int, .int, .int, .int, .int, .int, .int, .int, .int, .int, .int, .int, .int, .int, .int, .int, .int, .int, .int, .int, .int, .int, .int, .int, .int] (q44 a) (q44 b) = some (decide (a = b)) := by
 have h := k5r a b (by omega)
 rw [ha] at h
 exact h
abbrev k9g (r e j : Int) (c : PV) (d : List (BitVec 8)) : PV := .agg (.int r :: .int e :: .int j :: c :: q44 d)
theorem j3c (r e j : Int) (t : Bool) (l : List Int) (hl : l.length ≤ 100000) (d : List (BitVec 8)) (hd : d.length = 32) (st : q43) : Rets P F.q37 [k9g r e j (q49 t l) d] st (.int (if chk r e j l then 0 else 340)) := z62 r e j t l hl d hd st
theorem k9h (r e j : Int) (t : Bool) (l : List Int) (hl : l.length ≤ 100000) (d : List (BitVec 8)) (st : q43) : Rets P F.q17 [k9g r e j (q49 t l) d] st (.int (if chk r e j l then 0 else 340)) := z0g r e j t l hl d st
def q55 (r e j : Int) (c k : List Int) : Bool := chk r e j c && q6x k 1073741788 && decide (k.length = c.length)
def q62 (c k : List Int) : List Int := List.zipWith z29 c k
theorem z46 {c k : List Int} (h : k.length = c.length) : (q62 c k).length = c.length := by simp [q62, h]
theorem k1n {l : List Int} {most : Int} (h : q6x l most = true) : 1 ≤ l.length ∧ l.length ≤ 64 := by
 unfold q6x at h
 simp only [Bool.and_eq_true, decide_eq_true_eq] at h
 exact h.1
theorem j3d (t u : Bool) (r e j : Int) (c k : List Int) (hc : c.length ≤ 100000) (hk : k.length ≤ 100000) (d : List (BitVec 8)) (hd : d.length = 32) (h : q55 r e j c k = true) (st : q43) :
  Rets P F.q4h [k9g r e j (q49 t c) d, q49 u k] st (q49 false (q62 c k)) := by
 refine H.q4h.pure q5d rfl rfl ?_
 have hC := fun st => j3c r e j t c hc d hd st
 have hK := fun st => k18 u k hk 1073741788 st
 simp only [q55, Bool.and_eq_true, decide_eq_true_eq] at h
 obtain ⟨⟨h1, h2⟩, h3⟩ := h
 have h4 : q6x c 1073741788 = true := by
  unfold chk at h1
  simp only [Bool.and_eq_true] at h1
  exact h1.2
 have hz : ∀ st, Rets P F.q1a [q49 t c, q49 u k, .func (.func F.q4c) [] []] st (q49 false (q62 c k)) := fun st =>
  z8n F.q4c z29 t u c k (by have := k1n h4; omega) h3.symm (fun i hi st => by
   have b1 := q5w h4 _ (List.getElem_mem hi)
   have b2 := q5w h2 _ (List.getElem_mem (by rw [h3]; exact hi))
   exact z97 _ _ b1.1 (by omega) b2.1 (by omega) st) st
 rw [h1, if_pos rfl] at hC
 rw [h2] at hK
 have hdl : (q44 d).length = 32 := by simp [hd]
 have htk : List.take 32 (q44 d) = q44 d := List.take_of_length_le (by omega)
 clear h1 h2 h4
 repeat' (first 
  | (with_reducible refine Fresh.intro fun b hb => ?_) <;> (try simp -dsimp -implicitDefEqProofs [*] at hb)
  | (with_reducible refine Rets.xcall (hC _) ?_)
  | (with_reducible refine Rets.xcall (hK _) ?_)
  | (with_reducible refine Rets.xcall (k6j _) ?_)
  | (with_reducible refine Rets.xcall (hz _) ?_)
  | (simp -dsimp -implicitDefEqProofs [*]))
theorem j3e (t u : Bool) (r e j : Int) (c k : List Int) (hc : c.length ≤ 100000) (hk : k.length ≤ 100000) (d : List (BitVec 8)) (hd : d.length = 32) (h : q55 r e j c k = false) (st : q43) :
  Panics P F.q4h [k9g r e j (q49 t c) d, q49 u k] st (.iface T.apiErrno (.int 340)) := by
 refine H.q4h.panics q5d rfl rfl ?_
 have hC := fun st => j3c r e j t c hc d hd st
 have hK := fun st => k18 u k hk 1073741788 st
 unfold q55 at h
 have hdl : (q44 d).length = 32 := by simp [hd]
 have htk : List.take 32 (q44 d) = q44 d := List.take_of_length_le (by omega)
 generalize chk r e j c = A at *
 generalize q6x k 1073741788 = B at *
 cases A
 ·repeat' (first 
   | (with_reducible refine Fresh.intro fun b hb => ?_) <;> (try simp -dsimp -implicitDefEqProofs [*] at hb)
   | (with_reducible refine Rets.xcall (hC _) ?_)
   | (with_reducible refine Panics.xcall (k27 _) ?_)
   | (simp -dsimp -implicitDefEqProofs [*]))
 cases B
 ·repeat' (first 
   | (with_reducible refine Fresh.intro fun b hb => ?_) <;> (try simp -dsimp -implicitDefEqProofs [*] at hb)
   | (with_reducible refine Rets.xcall (hC _) ?_)
   | (with_reducible refine Rets.xcall (hK _) ?_)
   | (with_reducible refine Panics.xcall (k27 _) ?_)
   | (simp -dsimp -implicitDefEqProofs [*]))
 ·have h' : ¬ k.length = c.length := by simpa using h
  clear h
  have h8 : decide ((k.length : Int) = (c.length : Int)) = false := by simp; omega
  repeat' (first 
   | (with_reducible refine Fresh.intro fun b hb => ?_) <;> (try simp -dsimp -implicitDefEqProofs [*] at hb)
   | (with_reducible refine Rets.xcall (hC _) ?_)
   | (with_reducible refine Rets.xcall (hK _) ?_)
   | (with_reducible refine Panics.xcall (k27 _) ?_)
   | (simp -dsimp -implicitDefEqProofs [*]))
theorem k9i {l : List Int} (h : ∀ n ∈ l, 0 ≤ n) : (l.map Int.toNat).map (fun n : Nat => (n : Int)) = l := by
 rw [List.map_map]
 conv => rhs; rw [← List.map_id l]
 exact List.map_congr_left fun n hn => Int.toNat_of_nonneg (h n hn)
structure Right (r e j : Int) (m k : List Int) : Prop where
 hp : q7n r e j = true
 hm : q6x m 1000 = true
 hk : q6x k 1073741788 = true
theorem k78 {r e j : Int} (h : q7n r e j = true) : (0 ≤ r ∧ r ≤ 7) ∧ (0 ≤ e ∧ e ≤ 4095) ∧ (0 ≤ j ∧ j ≤ 255) := by
 simpa [q7n, wi, and_assoc] using h
theorem Right.fit {r e j : Int} {m k : List Int} (h : Right r e j m k) {salt : List (BitVec 8)} (hs : salt.length = 32) : Fit r.toNat e.toNat j.toNat (m.map Int.toNat) (k.map Int.toNat) (q7s salt) := by
 have h1 := k78 h.hp
 have hm := q5w h.hm
 have hk := q5w h.hk
 have lm := k1n h.hm
 have lk := k1n h.hk
 refine ⟨by unfold BIG; omega, by unfold BIG; omega, by unfold BIG; omega, ?_, ?_, by simp; omega, by simp; omega, by simp; omega, by simp; omega, by rw [z94]; omega⟩
 ·intro n hn
  obtain ⟨x, hx, rfl⟩ := List.mem_map.1 hn
  have := hm x hx
  unfold BIG; omega
 ·intro n hn
  obtain ⟨x, hx, rfl⟩ := List.mem_map.1 hn
  have := hk x hx
  unfold BIG; omega
def y2m (r e j : Int) (m k : List Int) (salt : List (BitVec 8)) : List (BitVec 8) := k7t r.toNat e.toNat j.toNat (m.map Int.toNat) (k.map Int.toNat) (q7s salt)
def j4t (r e j : Int) (m k : List Int) (salt : List (BitVec 8)) : List (BitVec 8) := q66 (q8c q7j) (y2m r e j m k salt)
theorem k1o (t : Bool) {l : List Int} (h : ∀ n ∈ l, 0 ≤ n) : q70 t (l.map Int.toNat) = q49 t l := by
 rw [← k3b, k9i h]
theorem j95 (t u : Bool) {r e j : Int} {m k : List Int} (c : PV) (d salt : List (BitVec 8)) (hd : d.length = 32) (hs : salt.length = 32) (h : Right r e j m k) (st : q43) (h0 : q5m st 0 = some (.arr T.t8uint32 Sha.start.row)) (h1 : q5m st 1 = some q8z) :
  Rets P F.q31 [k9g r e j c d, q49 t m, q49 u k, .agg (q44 salt)] st (.agg (q44 (j4t r e j m k salt))) := by
 have h9 := k9f t u c d salt hd hs (h.fit hs) st h0 h1
 have h2 := k78 h.hp
 rwa [k1o t fun n hn => (q5w h.hm n hn).1, k1o u fun n hn => (q5w h.hk n hn).1, k5q, Int.toNat_of_nonneg h2.1.1, Int.toNat_of_nonneg h2.2.1.1, Int.toNat_of_nonneg h2.2.2.1] at h9
def k1p (m k : List Int) : List Int := List.zipWith (fun x y => (x + y) % QI) m k
theorem j59 (t u : Bool) {r e j : Int} {m k : List Int} (salt : List (BitVec 8)) (hs : salt.length = 32) (h : y6y r e j m k = true) (st : q43) (h0 : q5m st 0 = some (.arr T.t8uint32 Sha.start.row)) (h1 : q5m st 1 = some q8z) :
  Rets P F.q4l [.int r, .int e, .int j, q49 t m, q49 u k, .agg (q44 salt)] st (.tuple [k9g r e j (q49 false (k1p m k)) (j4t r e j m k salt), .int 0]) := by
 simp only [y6y, Bool.and_eq_true, decide_eq_true_eq] at h
 obtain ⟨⟨⟨a1, a2⟩, a3⟩, a4⟩ := h
 have hr : Right r e j m k := ⟨a1, a2, a3⟩
 have h2 := k78 a1
 have em := k9i fun n hn => (q5w a2 n hn).1
 have ek := k9i fun n hn => (q5w a3 n hn).1
 have h9 := j94 t u r.toNat e.toNat j.toNat (m.map Int.toNat) (k.map Int.toNat) salt hs (by rw [Int.toNat_of_nonneg h2.1.1, Int.toNat_of_nonneg h2.2.1.1, Int.toNat_of_nonneg h2.2.2.1]; exact a1) (hr.fit hs) (by simpa using a4) (by rw [em]; exact a2) (by rw [ek]; exact a3) st h0 h1
 rwa [k1o t fun n hn => (q5w a2 n hn).1, k1o u fun n hn => (q5w a3 n hn).1, em, ek, k5q, Int.toNat_of_nonneg h2.1.1, Int.toNat_of_nonneg h2.2.1.1, Int.toNat_of_nonneg h2.2.2.1] at h9
theorem j6a (t u : Bool) {r e j : Int} {m k : List Int} (salt : List (BitVec 8)) (hs : salt.length = 32) (h : Right r e j m k) (st : q43) : Rets P F.q3f [.int r, .int e, .int j, q49 t m, q49 u k, .agg (q44 salt)] st (q5h false (y2m r e j m k salt)) := by
 have h9 := z44 t u salt hs (h.fit hs) st
 have h2 := k78 h.hp
 rwa [k1o t fun n hn => (q5w h.hm n hn).1, k1o u fun n hn => (q5w h.hk n hn).1, Int.toNat_of_nonneg h2.1.1, Int.toNat_of_nonneg h2.2.1.1, Int.toNat_of_nonneg h2.2.2.1] at h9
def k50 : Option (List Int) → PV
 | none => .nil
 | some l => q49 false l
def q9z (r e j : Int) (c k : List Int) : Option (List Int) := if q55 r e j c k && q6x (q62 c k) 1000 then some (q62 c k) else none
def y41 {α : Type} : Option α → Int
 | none => 340
 | some _ => 0
theorem z3b {c k : List Int} (hk : k.length ≤ 100000) : (q62 c k).length ≤ 100000 := by simp [q62]; omega
theorem z99 (t u : Bool) (r e j : Int) (c k : List Int) (hc : c.length ≤ 100000) (hk : k.length ≤ 100000) (d : List (BitVec 8)) (hd : d.length = 32) (st : q43) :
  Rets P F.q4n [k9g r e j (q49 t c) d, q49 u k] st (.tuple [k50 (q9z r e j c k), .int (y41 (q9z r e j c k))]) := by
 refine H.q4n.pure q5d rfl rfl ?_
 have hB1 := fun (h : q55 r e j c k = true) st => j3d t u r e j c k hc hk d hd h st
 have hB2 := fun (h : q55 r e j c k = false) st => j3e t u r e j c k hc hk d hd h st
 have hM := fun st => k18 false (q62 c k) (z3b hk) 1000 st
 have hdl : (q44 d).length = 32 := by simp [hd]
 have htk : List.take 32 (q44 d) = q44 d := List.take_of_length_le (by omega)
 generalize hR : PV.tuple [k50 (q9z r e j c k), .int (y41 (q9z r e j c k))] = R
 unfold q9z at hR
 generalize q55 r e j c k = A at *
 generalize q62 c k = M at *
 generalize q6x M 1000 = B at *
 cases A
 ·have hB := hB2 rfl
  clear hB1 hB2
  have hR' : R = .tuple [.nil, .int 340] := hR.symm
  clear hR
  subst hR'
  repeat' (first 
   | (with_reducible refine Fresh.intro fun b hb => ?_) <;> (try simp -dsimp -implicitDefEqProofs [*] at hb)
   | (with_reducible refine Panics.xcall (hB _) ?_)
   | (with_reducible refine Defs.xdef (k3p _ _ 0 _ (by simp [*])) ?_)
   | (simp -dsimp -implicitDefEqProofs [H.q0q.enters, *]))
  repeat' (simp -dsimp -implicitDefEqProofs [q9o, *])
 have hB := hB1 rfl
 clear hB1 hB2
 cases B
 ·have hR' : R = .tuple [.nil, .int 340] := hR.symm
  clear hR
  subst hR'
  repeat' (first 
   | (with_reducible refine Fresh.intro fun b hb => ?_) <;> (try simp -dsimp -implicitDefEqProofs [*] at hb)
   | (with_reducible refine Rets.xcall (hB _) ?_)
   | (with_reducible refine Rets.xcall (hM _) ?_)
   | (with_reducible refine Panics.xcall (k27 _) ?_)
   | (with_reducible refine Defs.xdef (k3p _ _ 0 _ (by simp [*])) ?_)
   | (simp -dsimp -implicitDefEqProofs [H.q0q.enters, *]))
  repeat' (simp -dsimp -implicitDefEqProofs [q9o, *])
 ·have hR' : R = .tuple [q49 false M, .int 0] := hR.symm
  clear hR
  subst hR'
  repeat' (first 
   | (with_reducible refine Fresh.intro fun b hb => ?_) <;> (try simp -dsimp -implicitDefEqProofs [*] at hb)
   | (with_reducible refine Rets.xcall (hB _) ?_)
   | (with_reducible refine Rets.xcall (hM _) ?_)
   | (with_reducible refine Rets.xcall (k6j _) ?_)
   | (with_reducible refine Defs.xdef (k1l _ _) ?_)
   | (simp -dsimp -implicitDefEqProofs [H.q0q.enters, *]))
def Snew (st : q43) (b : Nat) : Prop := q6h st b
theorem q57 {st : q43} {o o' : PObj} (h0 : q5m st 0 = some o) (h1 : q5m st 1 = some o') (b : Nat) : q6h st b = ((¬ 0 = b ∧ ¬ b = 0) ∧ (¬ 1 = b ∧ ¬ b = 1) ∧ Snew st b) := by
 refine propext ⟨fun h => ?_, fun h => h.2.2⟩
 have a := (q6a h h0).1
 have c := (q6a h h1).1
 exact ⟨⟨fun e => a e.symm, a⟩, ⟨fun e => c e.symm, c⟩, h⟩
def k4n (r e j : Int) (c : List Int) (d : List (BitVec 8)) (k : List Int) (salt : List (BitVec 8)) : Option (List Int) := if q55 r e j c k && q6x (q62 c k) 1000 && decide (j4t r e j (q62 c k) k salt = d) then some (q62 c k) else none
theorem z47 (t u : Bool) (r e j : Int) (c k : List Int) (hc : c.length ≤ 100000) (hk : k.length ≤ 100000) (d salt : List (BitVec 8)) (hd : d.length = 32) (hs : salt.length = 32) (st : q43) (h0 : q5m st 0 = some (.arr T.t8uint32 Sha.start.row)) (h1 : q5m st 1 = some q8z) :
  Rets P F.q4i [k9g r e j (q49 t c) d, q49 u k, .agg (q44 salt)] st (.tuple [k50 (k4n r e j c d k salt), .bool (k4n r e j c d k salt).isSome, .int (if q55 r e j c k then 0 else 340)]) := by
 refine H.q4i.pure q5d rfl rfl ?_
 have hB1 := fun (h : q55 r e j c k = true) st => j3d t u r e j c k hc hk d hd h st
 have hB2 := fun (h : q55 r e j c k = false) st => j3e t u r e j c k hc hk d hd h st
 have hM := fun st => k18 false (q62 c k) (z3b hk) 1000 st
 have hdl : (q44 d).length = 32 := by simp [hd]
 have htk : List.take 32 (q44 d) = q44 d := List.take_of_length_le (by omega)
 have hsl : (q44 salt).length = 32 := by simp [hs]
 have hts : List.take 32 (q44 salt) = q44 salt := List.take_of_length_le (by omega)
 have hC := fun (h2 : q55 r e j c k = true) (h3 : q6x (q62 c k) 1000 = true) => j95 false u (m := q62 c k) (q49 t c) d salt hd hs (by
  simp only [q55, chk, Bool.and_eq_true] at h2
  exact ⟨h2.1.1.1, h3, h2.1.2⟩)
 have hQ := k5s (j4t r e j (q62 c k) k salt) d rfl hd
 generalize hR : PV.tuple [k50 (k4n r e j c d k salt), .bool (k4n r e j c d k salt).isSome, .int (if q55 r e j c k then 0 else 340)] = R
 unfold k4n at hR
 generalize j4t r e j (q62 c k) k salt = D at *
 generalize q55 r e j c k = A at *
 generalize q62 c k = M at *
 generalize q6x M 1000 = B at *
 cases A
 ·have hB := hB2 rfl
  clear hB1 hB2 hC
  have hR' : R = .tuple [.nil, .bool false, .int 340] := hR.symm
  clear hR
  subst hR'
  repeat' (first 
   | (with_reducible refine Fresh.intro fun b hb => ?_) <;> (try simp -dsimp -implicitDefEqProofs [*] at hb)
   | (with_reducible refine Panics.xcall (hB _) ?_)
   | (with_reducible refine Defs.xdef (k3p _ _ 0 _ (by simp [*])) ?_)
   | (simp -dsimp -implicitDefEqProofs [H.q0q.enters, *]))
  repeat' (simp -dsimp -implicitDefEqProofs [q9o, *])
 have hB := hB1 rfl
 clear hB1 hB2
 cases B
 ·clear hC
  have hR' : R = .tuple [.nil, .bool false, .int 0] := hR.symm
  clear hR
  subst hR'
  repeat' (first 
   | (with_reducible refine Fresh.intro fun b hb => ?_) <;> (try simp -dsimp -implicitDefEqProofs [*] at hb)
   | (with_reducible refine Rets.xcall (hB _) ?_)
   | (with_reducible refine Rets.xcall (hM _) ?_)
   | (with_reducible refine Defs.xdef (k1l _ _) ?_)
   | (with_reducible refine DrawLate.intro [] ?_)
   | (simp -dsimp -implicitDefEqProofs [H.q0q.enters, *]))
 ·have hC1 := hC rfl rfl
  clear hC
  simp only [Bool.true_and, if_true] at hR
  have hN := q57 h0 h1
  have hsub := sub_all hsl
  repeat' (first 
   | (with_reducible refine Fresh.intro fun b hb => ?_) <;> (try simp -dsimp -implicitDefEqProofs [*] at hb)
   | (with_reducible refine Rets.xcall (hB _) ?_)
   | (with_reducible refine Rets.xcall (hM _) ?_)
   | (with_reducible refine Rets.xcall (hC1 _ (by simp [*]) (by simp [*])) ?_)
   | (with_reducible refine Defs.xdef (k1l _ _) ?_)
   | (with_reducible refine DrawLate.intro [] ?_)
   | (with_reducible refine And.intro (fun h => ?_) (fun h => ?_)) <;> (try (exfalso; omega))
   | (simp -dsimp -implicitDefEqProofs [H.q0q.enters, *]))
  all_goals (rw [← hR]; simp [*, k50])
end Go.Proofs.YtnooplpbpfiapaaGreatDoor
