/- Check. -/
import Derived.Test.YtnooplpbpfiapaaGreatDoorS36T
namespace Go.Proofs.YtnooplpbpfiapaaGreatDoor
open Go.Pv Go.Pv.Sha
set_option maxRecDepth 100000
set_option maxHeartbeats 4000000
theorem k63 (b : Nat) (n m : Int) (st : q5d) : Defs P F.q0q [.ptr b 0] (.panicking (.iface T.apiErrno (.int n))) ((b, .arr T.apiErrno [.int m]) :: st) .returning ((b, .arr T.apiErrno [.int n]) :: st) := by
 have h := k35 b n m ((b, .arr T.apiErrno [.int m]) :: st) (by simp)
 simpa [k0a] using h
def chk (r e j : Int) (l : List Int) : Bool := q7y r e j && q7c l 1073741788
abbrev j3k (r e j : Int) (t : Bool) (l : List Int) (d : List (BitVec 8)) : PV := .agg (q65 r e j t l (q5e d))
theorem z0u (r e j : Int) (t : Bool) (l : List Int) (hl : l.length ≤ 100000) (d : List (BitVec 8)) (st : q5d) : Rets P F.q18 [j3k r e j t l d] st (.int (if chk r e j l then 0 else 340)) := by
 refine H.q18.pure q5n rfl rfl ?_
 have hp := fun st => z3j r e j st
 have hk := fun st => k3p t l hl st
 generalize hR : (if chk r e j l then (0 : Int) else 340) = R
 unfold chk at hR
 generalize q7y r e j = A at *
 generalize q7c l 1073741788 = B at *
 cases A <;> cases B <;> simp only [Bool.and_true, Bool.and_false, Bool.false_eq_true, if_true, if_false] at hR <;> subst hR
 ·repeat' (first 
   | (with_reducible refine Fresh.intro fun b hb => ?_) <;> (try simp -dsimp -implicitDefEqProofs [*] at hb)
   | (with_reducible refine Rets.xcall (hp _) ?_)
   | (simp -dsimp -implicitDefEqProofs [q65, *]))
 ·repeat' (first 
   | (with_reducible refine Fresh.intro fun b hb => ?_) <;> (try simp -dsimp -implicitDefEqProofs [*] at hb)
   | (with_reducible refine Rets.xcall (hp _) ?_)
   | (simp -dsimp -implicitDefEqProofs [q65, *]))
 ·repeat' (first 
   | (with_reducible refine Fresh.intro fun b hb => ?_) <;> (try simp -dsimp -implicitDefEqProofs [*] at hb)
   | (with_reducible refine Rets.xcall (hp _) ?_)
   | (with_reducible refine Rets.xcall (hk _) ?_)
   | (simp -dsimp -implicitDefEqProofs [q65, *]))
 ·repeat' (first 
   | (with_reducible refine Fresh.intro fun b hb => ?_) <;> (try simp -dsimp -implicitDefEqProofs [*] at hb)
   | (with_reducible refine Rets.xcall (hp _) ?_)
   | (with_reducible refine Rets.xcall (hk _) ?_)
   | (simp -dsimp -implicitDefEqProofs [q65, *]))
theorem z7b (r e j : Int) (t : Bool) (l : List Int) (hl : l.length ≤ 100000) (d : List (BitVec 8)) (hd : d.length = 32) (st : q5d) : Rets P F.q4i [j3k r e j t l d] st (.int (if chk r e j l then 0 else 340)) := by
 refine H.q4i.pure q5n rfl rfl ?_
 have hp1 : q7y r e j = true → ∀ st, Rets P F.q2j [.agg (.int r :: .int e :: .int j :: q5k t l :: q5e d)] st (.tuple []) := fun h st => j3e r e j t l (q5e d) h st
 have hp2 : q7y r e j = false → ∀ st, Panics P F.q2j [.agg (.int r :: .int e :: .int j :: q5k t l :: q5e d)] st (.iface T.apiErrno (.int 340)) := fun h st => j3f r e j t l (q5e d) h st
 have ha := fun st => k2o t l hl 1073741788 st
 have hdl : (q5e d).length = 32 := by simp [hd]
 have htk : List.take 32 (q5e d) = q5e d := List.take_of_length_le (by omega)
 generalize hR : (if chk r e j l then (0 : Int) else 340) = R
 unfold chk at hR
 generalize q7y r e j = A at *
 generalize q7c l 1073741788 = B at *
 cases A <;> cases B <;> simp only [Bool.and_true, Bool.and_false, Bool.false_eq_true, if_true, if_false] at hR <;> subst hR
 ·have hp3 := hp2 rfl
  clear hp1 hp2
  repeat' (first 
   | (with_reducible refine Fresh.intro fun b hb => ?_) <;> (try simp -dsimp -implicitDefEqProofs [*] at hb)
   | (with_reducible refine Panics.xcall (hp3 _) ?_)
   | (with_reducible refine Defs.xdef (k63 _ _ _ _) ?_)
   | (simp -dsimp -implicitDefEqProofs [q65, H.q0q.enters, *]))
  repeat' (simp -dsimp -implicitDefEqProofs [q90, *])
 ·have hp3 := hp2 rfl
  clear hp1 hp2
  repeat' (first 
   | (with_reducible refine Fresh.intro fun b hb => ?_) <;> (try simp -dsimp -implicitDefEqProofs [*] at hb)
   | (with_reducible refine Panics.xcall (hp3 _) ?_)
   | (with_reducible refine Defs.xdef (k63 _ _ _ _) ?_)
   | (simp -dsimp -implicitDefEqProofs [q65, H.q0q.enters, *]))
  repeat' (simp -dsimp -implicitDefEqProofs [q90, *])
 ·have hp3 := hp1 rfl
  clear hp1 hp2
  repeat' (first 
   | (with_reducible refine Fresh.intro fun b hb => ?_) <;> (try simp -dsimp -implicitDefEqProofs [*] at hb)
   | (with_reducible refine Rets.xcall (hp3 _) ?_)
   | (with_reducible refine Rets.xcall (ha _) ?_)
   | (with_reducible refine Panics.xcall (k3m _) ?_)
   | (with_reducible refine Defs.xdef (k63 _ _ _ _) ?_)
   | (simp -dsimp -implicitDefEqProofs [q65, H.q0q.enters, *]))
  repeat' (simp -dsimp -implicitDefEqProofs [q90, *])
 ·have hp3 := hp1 rfl
  clear hp1 hp2
  repeat' (first 
   | (with_reducible refine Fresh.intro fun b hb => ?_) <;> (try simp -dsimp -implicitDefEqProofs [*] at hb)
   | (with_reducible refine Rets.xcall (hp3 _) ?_)
   | (with_reducible refine Rets.xcall (ha _) ?_)
   | (with_reducible refine Rets.xcall (k61 _) ?_)
   | (with_reducible refine Defs.xdef (k11 _ _) ?_)
   | (simp -dsimp -implicitDefEqProofs [q65, H.q0q.enters, *]))
open Go.Pv Go.Pv.Sha
set_option maxRecDepth 100000
set_option maxHeartbeats 4000000
theorem j0o (r e j : Int) (c : List PV) (h : q7y r e j = true) (st : q5d) : Rets P F.q2j [.agg (.int r :: .int e :: .int j :: c)] st (.tuple []) := by
 refine H.q2j.pure q5n rfl rfl ?_
 simp [q7y] at h
 repeat' (first 
  | (with_reducible refine Fresh.intro fun b hb => ?_) <;> (try simp -dsimp -implicitDefEqProofs [*] at hb)
  | (with_reducible refine Rets.xcall (q8z _ _ _) ?_)
  | (with_reducible refine Rets.xcall (k61 _) ?_)
  | (simp -dsimp -implicitDefEqProofs [*]))
theorem k3q (t : Bool) (m : List Nat) : q5k t (m.map fun n : Nat => (n : Int)) = q8c t m := by
 show PV.list t (q6j _) _ = _
 rw [q6j, List.map_map, List.length_map]
 rfl
theorem q58 {l : List Int} {most : Int} (h : q7c l most = true) : ∀ n ∈ l, 0 ≤ n ∧ n ≤ most := by
 intro n hn
 unfold q7c at h
 simp only [Bool.and_eq_true] at h
 have := List.all_eq_true.1 h.2 n hn
 simpa [wi] using this
theorem y0d (t u : Bool) (r e j : Nat) (m k : List Nat) (salt : List (BitVec 8)) (hs : salt.length = 32) (hp : q7y r e j = true) (h : Fit r e j m k (q73 salt)) (hmk : m.length = k.length)
  (hm : q7c (m.map fun n : Nat => (n : Int)) 1000 = true) (hk : q7c (k.map fun n : Nat => (n : Int)) 1073741788 = true) (st : q5d) (h0 : q5w st 0 = some (.arr T.t8uint32 Sha.start.row)) (h1 : q5w st 1 = some q9o) :
  Rets P F.q4w [.int (r : Int), .int (e : Int), .int (j : Int), q8c t m, q8c u k, .agg (q5e salt)] st (.tuple [.agg (k59 r e j (q5k false (List.zipWith (fun x y => (x + y) % QI) (m.map fun n : Nat => (n : Int)) (k.map fun n : Nat => (n : Int)))) (q7h (q8m q7v) (k77 r e j m k (q73 salt)))), .int 0]) := by
 refine H.q4w.pure q5n rfl rfl ?_
 have hp1 := fun c st => j0o r e j c hp st
 have hmM := fun st => k2o t (m.map fun n : Nat => (n : Int)) (by have := h.m1; simp; omega) 1000 st
 have hkK := fun st => k2o u (k.map fun n : Nat => (n : Int)) (by have := h.k1; simp; omega) 1073741788 st
 have hz : ∀ st, Rets P F.q1b [q8c t m, q8c u k, .func (.func F.q4m) [] []] st (q5k false (List.zipWith (fun x y => (x + y) % QI) (m.map fun n : Nat => (n : Int)) (k.map fun n : Nat => (n : Int)))) := fun st => by
  have h9 := z86 F.q4m (fun x y => (x + y) % QI) t u (m.map fun n : Nat => (n : Int)) (k.map fun n : Nat => (n : Int)) (by have := h.m1; simp; omega) (by simp [hmk]) (fun i hi st => by
   have b1 := q58 hm _ (List.getElem_mem hi)
   have b2 := q58 hk _ (List.getElem_mem (by simpa [hmk] using hi))
   exact j0m _ _ b1.1 (by omega) b2.1 (by omega) st) st
  rwa [k3q, k3q] at h9
 have hsl : (q5e salt).length = 32 := by simp [hs]
 have hsub := sub_all hsl
 have htk : List.take 32 (q5e salt) = q5e salt := List.take_of_length_le (by omega)
 have hc : ∀ st : q5d, q5w st 0 = some (.arr T.t8uint32 Sha.start.row) → q5w st 1 = some q9o → Rets P F.q4a [.agg [.int r, .int e, .int j, .list false (q6j (List.zipWith (fun (a b : Nat) => ((a : Int) + (b : Int)) % QI) m k)) k.length, .val (.int .u8 0), .val (.int .u8 0), .val (.int .u8 0), .val (.int .u8 0), .val (.int .u8 0), .val (.int .u8 0), .val (.int .u8 0), .val (.int .u8 0), .val (.int .u8 0), .val (.int .u8 0), .val (.int .u8 0), .val (.int .u8 0), .val (.int .u8 0), .val (.int .u8 0), .val (.int .u8 0), .val (.int .u8 0), .val (.int .u8 0), .val (.int .u8 0), .val (.int .u8 0), .val (.int .u8 0), .val (.int .u8 0), .val (.int .u8 0), .val (.int .u8 0), .val (.int .u8 0), .val (.int .u8 0), .val (.int .u8 0), .val (.int .u8 0), .val (.int .u8 0), .val (.int .u8 0), .val (.int .u8 0), .val (.int .u8 0), .val (.int .u8 0)], q8c t m, q8c u k, .agg (q5e salt)] st (.agg (q5e (q7h (q8m q7v) (k77 r e j m k (q73 salt))))) := fun st h0 h1 =>
  k9t t u (.list false (q6j (List.zipWith (fun (a b : Nat) => ((a : Int) + (b : Int)) % QI) m k)) k.length) (List.replicate 32 0#8) salt rfl hs h st h0 h1
 have hD : (q5e (q7h (q8m q7v) (k77 r e j m k (q73 salt)))).length = 32 := rfl
 have hdub : ∀ a b c d : PV, sub (a :: b :: c :: d :: q5e (q7h (q8m q7v) (k77 r e j m k (q73 salt)))) 0 36 = some (a :: b :: c :: d :: q5e (q7h (q8m q7v) (k77 r e j m k (q73 salt)))) := fun a b c d => sub_all (by simp only [List.length_cons, hD])
 have htd : List.take 32 (q5e (q7h (q8m q7v) (k77 r e j m k (q73 salt)))) = q5e (q7h (q8m q7v) (k77 r e j m k (q73 salt))) := List.take_of_length_le (by omega)
 have hall : ∀ a b c d (L : List PV), L.length = 32 → q5i (a :: b :: c :: d :: L) 4 (q5e (q7h (q8m q7v) (k77 r e j m k (q73 salt)))) = a :: b :: c :: d :: q5e (q7h (q8m q7v) (k77 r e j m k (q73 salt))) := fun a b c d L h => by
  have h9 := q54 (q5e (q7h (q8m q7v) (k77 r e j m k (q73 salt)))) [a, b, c, d] L 0
  rw [q6e _ _ (hD.trans h.symm)] at h9
  exact h9
 generalize q7h (q8m q7v) (k77 r e j m k (q73 salt)) = D at *
 rw [hm, k3q] at hmM
 rw [hk, k3q] at hkK
 repeat' (first 
  | (with_reducible refine Fresh.intro fun b hb => ?_) <;> (try simp -dsimp -implicitDefEqProofs [*] at hb)
  | (with_reducible refine Rets.xcall (hp1 _ _) ?_)
  | (with_reducible refine Rets.xcall (hmM _) ?_)
  | (with_reducible refine Rets.xcall (hkK _) ?_)
  | (with_reducible refine Rets.xcall (k61 _) ?_)
  | (with_reducible refine Rets.xcall (hz _) ?_)
  | (simp -dsimp -implicitDefEqProofs [H.q0q.enters, *]))
 revert b
 intro y hy
 revert b
 intro z hz hy
 revert b
 intro p hp hz hy
 revert b
 intro q hq hp hz hy
 have y0 := (q6m hy.2.2.2 h0).1
 have y1 := (q6m hy.2.2.2 h1).1
 have z0 := (q6m hz.2.2 h0).1
 have z1 := (q6m hz.2.2 h1).1
 have p0 := (q6m hp.2 h0).1
 have p1 := (q6m hp.2 h1).1
 have q0 := (q6m hq h0).1
 have q1 := (q6m hq h1).1
 have hc' := fun R R1 R2 R3 => hc ((y, .arr T.apiSealed R) :: (z, .arr T.apiErrno R1) :: (p, .arr T.apiSealed R2) :: (q, .arr T.apiDigest R3) :: st) (by simp [y0, z0, p0, q0, h0]) (by simp [y1, z1, p1, q1, h1])
 clear hc
 repeat' (first 
  | (with_reducible refine Rets.xcall (hc' _ _ _ _) ?_)
  | (with_reducible refine Defs.xdef (k11 _ _) ?_)
  | (simp -dsimp -implicitDefEqProofs [H.q0q.enters, *]))
def y61 (r e j : Int) (m k : List Int) : Bool := q7y r e j && q7c m 1000 && q7c k 1073741788 && decide (m.length = k.length)
abbrev z32 : List (BitVec 8) := List.replicate 32 0#8
abbrev k36 : List PV := [.int 0, .int 0, .int 0, .nil, .val (.int .u8 0), .val (.int .u8 0), .val (.int .u8 0), .val (.int .u8 0), .val (.int .u8 0), .val (.int .u8 0), .val (.int .u8 0), .val (.int .u8 0), .val (.int .u8 0), .val (.int .u8 0), .val (.int .u8 0), .val (.int .u8 0), .val (.int .u8 0), .val (.int .u8 0), .val (.int .u8 0), .val (.int .u8 0), .val (.int .u8 0), .val (.int .u8 0), .val (.int .u8 0), .val (.int .u8 0), .val (.int .u8 0), .val (.int .u8 0), .val (.int .u8 0), .val (.int .u8 0), .val (.int .u8 0), .val (.int .u8 0), .val (.int .u8 0), .val (.int .u8 0), .val (.int .u8 0), .val (.int .u8 0), .val (.int .u8 0), .val (.int .u8 0)]
open Go.Pv Go.Pv.Sha
set_option maxRecDepth 100000
set_option maxHeartbeats 4000000
theorem y43 {a b : BitVec 8} : (a.toNat : Int) = b.toNat ↔ a = b := by
 constructor
 ·intro h
  exact BitVec.eq_of_toNat_eq (by omega)
 ·rintro rfl
  rfl
theorem k6b : ∀ (a b : List (BitVec 8)), a.length = b.length → q6c (List.replicate a.length .int) (q5e a) (q5e b) = some (decide (a = b))
 | [], [], _ => rfl
 | x :: a, y :: b, h => by
  have ih := k6b a b (by simpa using h)
  show (match q9y .int (bv x) (bv y), q6c (List.replicate a.length .int) (q5e a) (q5e b) with
   | some a, some b => some (a && b)
   | _, _ => none) = _
  rw [ih]
  have e : q9y .int (bv x) (bv y) = some (decide (x = y)) := by
   by_cases hxy : x = y
   ·simp [q9y, hxy]
   ·simp only [hxy, decide_false]
    simp [q9y]
    exact fun h => hxy (by simpa [u8, y43] using h)
  rw [e]
  simp only [List.cons.injEq, Bool.decide_and]
theorem k6c (a b : List (BitVec 8)) (ha : a.length = 32) (hb : b.length = 32) : q6c [.int, .int, .int, .int, .int, .int, .int, .int, .int, .int, .int, .int, .int, .int, .int, .int, .int, .int, .int, .int, .int, .int, .int, .int, .int, .int, .int, .int, .int, .int, .int, .int] (q5e a) (q5e b) = some (decide (a = b)) := by
 have h := k6b a b (by omega)
 rw [ha] at h
 exact h
abbrev k78 (r e j : Int) (c : PV) (d : List (BitVec 8)) : PV := .agg (.int r :: .int e :: .int j :: c :: q5e d)
theorem j3l (r e j : Int) (t : Bool) (l : List Int) (hl : l.length ≤ 100000) (d : List (BitVec 8)) (hd : d.length = 32) (st : q5d) : Rets P F.q4i [k78 r e j (q5k t l) d] st (.int (if chk r e j l then 0 else 340)) := z7b r e j t l hl d hd st
theorem k9u (r e j : Int) (t : Bool) (l : List Int) (hl : l.length ≤ 100000) (d : List (BitVec 8)) (st : q5d) : Rets P F.q18 [k78 r e j (q5k t l) d] st (.int (if chk r e j l then 0 else 340)) := z0u r e j t l hl d st
def q6f (r e j : Int) (c k : List Int) : Bool := chk r e j c && q7c k 1073741788 && decide (k.length = c.length)
def q66 (c k : List Int) : List Int := List.zipWith z5e c k
theorem z5g {c k : List Int} (h : k.length = c.length) : (q66 c k).length = c.length := by simp [q66, h]
theorem k3r {l : List Int} {most : Int} (h : q7c l most = true) : 1 ≤ l.length ∧ l.length ≤ 64 := by
 unfold q7c at h
 simp only [Bool.and_eq_true, decide_eq_true_eq] at h
 exact h.1
theorem j3m (t u : Bool) (r e j : Int) (c k : List Int) (hc : c.length ≤ 100000) (hk : k.length ≤ 100000) (d : List (BitVec 8)) (hd : d.length = 32) (h : q6f r e j c k = true) (st : q5d) :
  Rets P F.q4r [k78 r e j (q5k t c) d, q5k u k] st (q5k false (q66 c k)) := by
 refine H.q4r.pure q5n rfl rfl ?_
 have hC := fun st => j3l r e j t c hc d hd st
 have hK := fun st => k2o u k hk 1073741788 st
 simp only [q6f, Bool.and_eq_true, decide_eq_true_eq] at h
 obtain ⟨⟨h1, h2⟩, h3⟩ := h
 have h4 : q7c c 1073741788 = true := by
  unfold chk at h1
  simp only [Bool.and_eq_true] at h1
  exact h1.2
 have hz : ∀ st, Rets P F.q1b [q5k t c, q5k u k, .func (.func F.q4n) [] []] st (q5k false (q66 c k)) := fun st =>
  z86 F.q4n z5e t u c k (by have := k3r h4; omega) h3.symm (fun i hi st => by
   have b1 := q58 h4 _ (List.getElem_mem hi)
   have b2 := q58 h2 _ (List.getElem_mem (by rw [h3]; exact hi))
   exact j0n _ _ b1.1 (by omega) b2.1 (by omega) st) st
 rw [h1, if_pos rfl] at hC
 rw [h2] at hK
 have hdl : (q5e d).length = 32 := by simp [hd]
 have htk : List.take 32 (q5e d) = q5e d := List.take_of_length_le (by omega)
 clear h1 h2 h4
 repeat' (first 
  | (with_reducible refine Fresh.intro fun b hb => ?_) <;> (try simp -dsimp -implicitDefEqProofs [*] at hb)
  | (with_reducible refine Rets.xcall (hC _) ?_)
  | (with_reducible refine Rets.xcall (hK _) ?_)
  | (with_reducible refine Rets.xcall (k61 _) ?_)
  | (with_reducible refine Rets.xcall (hz _) ?_)
  | (simp -dsimp -implicitDefEqProofs [*]))
theorem j3n (t u : Bool) (r e j : Int) (c k : List Int) (hc : c.length ≤ 100000) (hk : k.length ≤ 100000) (d : List (BitVec 8)) (hd : d.length = 32) (h : q6f r e j c k = false) (st : q5d) :
  Panics P F.q4r [k78 r e j (q5k t c) d, q5k u k] st (.iface T.apiErrno (.int 340)) := by
 refine H.q4r.panics q5n rfl rfl ?_
 have hC := fun st => j3l r e j t c hc d hd st
 have hK := fun st => k2o u k hk 1073741788 st
 unfold q6f at h
 have hdl : (q5e d).length = 32 := by simp [hd]
 have htk : List.take 32 (q5e d) = q5e d := List.take_of_length_le (by omega)
 generalize chk r e j c = A at *
 generalize q7c k 1073741788 = B at *
 cases A
 ·repeat' (first 
   | (with_reducible refine Fresh.intro fun b hb => ?_) <;> (try simp -dsimp -implicitDefEqProofs [*] at hb)
   | (with_reducible refine Rets.xcall (hC _) ?_)
   | (with_reducible refine Panics.xcall (k3m _) ?_)
   | (simp -dsimp -implicitDefEqProofs [*]))
 cases B
 ·repeat' (first 
   | (with_reducible refine Fresh.intro fun b hb => ?_) <;> (try simp -dsimp -implicitDefEqProofs [*] at hb)
   | (with_reducible refine Rets.xcall (hC _) ?_)
   | (with_reducible refine Rets.xcall (hK _) ?_)
   | (with_reducible refine Panics.xcall (k3m _) ?_)
   | (simp -dsimp -implicitDefEqProofs [*]))
 ·have h' : ¬ k.length = c.length := by simpa using h
  clear h
  have h8 : decide ((k.length : Int) = (c.length : Int)) = false := by simp; omega
  repeat' (first 
   | (with_reducible refine Fresh.intro fun b hb => ?_) <;> (try simp -dsimp -implicitDefEqProofs [*] at hb)
   | (with_reducible refine Rets.xcall (hC _) ?_)
   | (with_reducible refine Rets.xcall (hK _) ?_)
   | (with_reducible refine Panics.xcall (k3m _) ?_)
   | (simp -dsimp -implicitDefEqProofs [*]))
theorem k9v {l : List Int} (h : ∀ n ∈ l, 0 ≤ n) : (l.map Int.toNat).map (fun n : Nat => (n : Int)) = l := by
 rw [List.map_map]
 conv => rhs; rw [← List.map_id l]
 exact List.map_congr_left fun n hn => Int.toNat_of_nonneg (h n hn)
structure Right (r e j : Int) (m k : List Int) : Prop where
 hp : q7y r e j = true
 hm : q7c m 1000 = true
 hk : q7c k 1073741788 = true
theorem k8l {r e j : Int} (h : q7y r e j = true) : (0 ≤ r ∧ r ≤ 7) ∧ (0 ≤ e ∧ e ≤ 4095) ∧ (0 ≤ j ∧ j ≤ 255) := by
 simpa [q7y, wi, and_assoc] using h
theorem Right.fit {r e j : Int} {m k : List Int} (h : Right r e j m k) {salt : List (BitVec 8)} (hs : salt.length = 32) : Fit r.toNat e.toNat j.toNat (m.map Int.toNat) (k.map Int.toNat) (q73 salt) := by
 have h1 := k8l h.hp
 have hm := q58 h.hm
 have hk := q58 h.hk
 have lm := k3r h.hm
 have lk := k3r h.hk
 refine ⟨by unfold BIG; omega, by unfold BIG; omega, by unfold BIG; omega, ?_, ?_, by simp; omega, by simp; omega, by simp; omega, by simp; omega, by rw [j0k]; omega⟩
 ·intro n hn
  obtain ⟨x, hx, rfl⟩ := List.mem_map.1 hn
  have := hm x hx
  unfold BIG; omega
 ·intro n hn
  obtain ⟨x, hx, rfl⟩ := List.mem_map.1 hn
  have := hk x hx
  unfold BIG; omega
def y2o (r e j : Int) (m k : List Int) (salt : List (BitVec 8)) : List (BitVec 8) := k77 r.toNat e.toNat j.toNat (m.map Int.toNat) (k.map Int.toNat) (q73 salt)
def j42 (r e j : Int) (m k : List Int) (salt : List (BitVec 8)) : List (BitVec 8) := q7h (q8m q7v) (y2o r e j m k salt)
theorem k13 (t : Bool) {l : List Int} (h : ∀ n ∈ l, 0 ≤ n) : q8c t (l.map Int.toNat) = q5k t l := by
 rw [← k3q, k9v h]
theorem y0e (t u : Bool) {r e j : Int} {m k : List Int} (c : PV) (d salt : List (BitVec 8)) (hd : d.length = 32) (hs : salt.length = 32) (h : Right r e j m k) (st : q5d) (h0 : q5w st 0 = some (.arr T.t8uint32 Sha.start.row)) (h1 : q5w st 1 = some q9o) :
  Rets P F.q4a [k78 r e j c d, q5k t m, q5k u k, .agg (q5e salt)] st (.agg (q5e (j42 r e j m k salt))) := by
 have h9 := k9t t u c d salt hd hs (h.fit hs) st h0 h1
 have h2 := k8l h.hp
 rwa [k13 t fun n hn => (q58 h.hm n hn).1, k13 u fun n hn => (q58 h.hk n hn).1, k59, Int.toNat_of_nonneg h2.1.1, Int.toNat_of_nonneg h2.2.1.1, Int.toNat_of_nonneg h2.2.2.1] at h9
def k14 (m k : List Int) : List Int := List.zipWith (fun x y => (x + y) % QI) m k
theorem j6j (t u : Bool) {r e j : Int} {m k : List Int} (salt : List (BitVec 8)) (hs : salt.length = 32) (h : y61 r e j m k = true) (st : q5d) (h0 : q5w st 0 = some (.arr T.t8uint32 Sha.start.row)) (h1 : q5w st 1 = some q9o) :
  Rets P F.q4w [.int r, .int e, .int j, q5k t m, q5k u k, .agg (q5e salt)] st (.tuple [k78 r e j (q5k false (k14 m k)) (j42 r e j m k salt), .int 0]) := by
 simp only [y61, Bool.and_eq_true, decide_eq_true_eq] at h
 obtain ⟨⟨⟨a1, a2⟩, a3⟩, a4⟩ := h
 have hr : Right r e j m k := ⟨a1, a2, a3⟩
 have h2 := k8l a1
 have em := k9v fun n hn => (q58 a2 n hn).1
 have ek := k9v fun n hn => (q58 a3 n hn).1
 have h9 := y0d t u r.toNat e.toNat j.toNat (m.map Int.toNat) (k.map Int.toNat) salt hs (by rw [Int.toNat_of_nonneg h2.1.1, Int.toNat_of_nonneg h2.2.1.1, Int.toNat_of_nonneg h2.2.2.1]; exact a1) (hr.fit hs) (by simpa using a4) (by rw [em]; exact a2) (by rw [ek]; exact a3) st h0 h1
 rwa [k13 t fun n hn => (q58 a2 n hn).1, k13 u fun n hn => (q58 a3 n hn).1, em, ek, k59, Int.toNat_of_nonneg h2.1.1, Int.toNat_of_nonneg h2.2.1.1, Int.toNat_of_nonneg h2.2.2.1] at h9
theorem j6k (t u : Bool) {r e j : Int} {m k : List Int} (salt : List (BitVec 8)) (hs : salt.length = 32) (h : Right r e j m k) (st : q5d) : Rets P F.q3n [.int r, .int e, .int j, q5k t m, q5k u k, .agg (q5e salt)] st (q5s false (y2o r e j m k salt)) := by
 have h9 := z5d t u salt hs (h.fit hs) st
 have h2 := k8l h.hp
 rwa [k13 t fun n hn => (q58 h.hm n hn).1, k13 u fun n hn => (q58 h.hk n hn).1, Int.toNat_of_nonneg h2.1.1, Int.toNat_of_nonneg h2.2.1.1, Int.toNat_of_nonneg h2.2.2.1] at h9
def k22 : Option (List Int) → PV
 | none => .nil
 | some l => q5k false l
def q8d (r e j : Int) (c k : List Int) : Option (List Int) := if q6f r e j c k && q7c (q66 c k) 1000 then some (q66 c k) else none
def j43 {α : Type} : Option α → Int
 | none => 340
 | some _ => 0
theorem k8m {c k : List Int} (hk : k.length ≤ 100000) : (q66 c k).length ≤ 100000 := by simp [q66]; omega
theorem j0p (t u : Bool) (r e j : Int) (c k : List Int) (hc : c.length ≤ 100000) (hk : k.length ≤ 100000) (d : List (BitVec 8)) (hd : d.length = 32) (st : q5d) :
  Rets P F.q4x [k78 r e j (q5k t c) d, q5k u k] st (.tuple [k22 (q8d r e j c k), .int (j43 (q8d r e j c k))]) := by
 refine H.q4x.pure q5n rfl rfl ?_
 have hB1 := fun (h : q6f r e j c k = true) st => j3m t u r e j c k hc hk d hd h st
 have hB2 := fun (h : q6f r e j c k = false) st => j3n t u r e j c k hc hk d hd h st
 have hM := fun st => k2o false (q66 c k) (k8m hk) 1000 st
 have hdl : (q5e d).length = 32 := by simp [hd]
 have htk : List.take 32 (q5e d) = q5e d := List.take_of_length_le (by omega)
 generalize hR : PV.tuple [k22 (q8d r e j c k), .int (j43 (q8d r e j c k))] = R
 unfold q8d at hR
 generalize q6f r e j c k = A at *
 generalize q66 c k = M at *
 generalize q7c M 1000 = B at *
 cases A
 ·have hB := hB2 rfl
  clear hB1 hB2
  have hR' : R = .tuple [.nil, .int 340] := hR.symm
  clear hR
  subst hR'
  repeat' (first 
   | (with_reducible refine Fresh.intro fun b hb => ?_) <;> (try simp -dsimp -implicitDefEqProofs [*] at hb)
   | (with_reducible refine Panics.xcall (hB _) ?_)
   | (with_reducible refine Defs.xdef (k35 _ _ 0 _ (by simp [*])) ?_)
   | (simp -dsimp -implicitDefEqProofs [H.q0q.enters, *]))
  repeat' (simp -dsimp -implicitDefEqProofs [q90, *])
 have hB := hB1 rfl
 clear hB1 hB2
 cases B
 ·have hR' : R = .tuple [.nil, .int 340] := hR.symm
  clear hR
  subst hR'
  repeat' (first 
   | (with_reducible refine Fresh.intro fun b hb => ?_) <;> (try simp -dsimp -implicitDefEqProofs [*] at hb)
   | (with_reducible refine Rets.xcall (hB _) ?_)
   | (with_reducible refine Rets.xcall (hM _) ?_)
   | (with_reducible refine Panics.xcall (k3m _) ?_)
   | (with_reducible refine Defs.xdef (k35 _ _ 0 _ (by simp [*])) ?_)
   | (simp -dsimp -implicitDefEqProofs [H.q0q.enters, *]))
  repeat' (simp -dsimp -implicitDefEqProofs [q90, *])
 ·have hR' : R = .tuple [q5k false M, .int 0] := hR.symm
  clear hR
  subst hR'
  repeat' (first 
   | (with_reducible refine Fresh.intro fun b hb => ?_) <;> (try simp -dsimp -implicitDefEqProofs [*] at hb)
   | (with_reducible refine Rets.xcall (hB _) ?_)
   | (with_reducible refine Rets.xcall (hM _) ?_)
   | (with_reducible refine Rets.xcall (k61 _) ?_)
   | (with_reducible refine Defs.xdef (k11 _ _) ?_)
   | (simp -dsimp -implicitDefEqProofs [H.q0q.enters, *]))
def Snew (st : q5d) (b : Nat) : Prop := q6u st b
theorem q6k {st : q5d} {o o' : PObj} (h0 : q5w st 0 = some o) (h1 : q5w st 1 = some o') (b : Nat) : q6u st b = ((¬ 0 = b ∧ ¬ b = 0) ∧ (¬ 1 = b ∧ ¬ b = 1) ∧ Snew st b) := by
 refine propext ⟨fun h => ?_, fun h => h.2.2⟩
 have a := (q6m h h0).1
 have c := (q6m h h1).1
 exact ⟨⟨fun e => a e.symm, a⟩, ⟨fun e => c e.symm, c⟩, h⟩
def k4c (r e j : Int) (c : List Int) (d : List (BitVec 8)) (k : List Int) (salt : List (BitVec 8)) : Option (List Int) := if q6f r e j c k && q7c (q66 c k) 1000 && decide (j42 r e j (q66 c k) k salt = d) then some (q66 c k) else none
theorem z5h (t u : Bool) (r e j : Int) (c k : List Int) (hc : c.length ≤ 100000) (hk : k.length ≤ 100000) (d salt : List (BitVec 8)) (hd : d.length = 32) (hs : salt.length = 32) (st : q5d) (h0 : q5w st 0 = some (.arr T.t8uint32 Sha.start.row)) (h1 : q5w st 1 = some q9o) :
  Rets P F.q4s [k78 r e j (q5k t c) d, q5k u k, .agg (q5e salt)] st (.tuple [k22 (k4c r e j c d k salt), .bool (k4c r e j c d k salt).isSome, .int (if q6f r e j c k then 0 else 340)]) := by
 refine H.q4s.pure q5n rfl rfl ?_
 have hB1 := fun (h : q6f r e j c k = true) st => j3m t u r e j c k hc hk d hd h st
 have hB2 := fun (h : q6f r e j c k = false) st => j3n t u r e j c k hc hk d hd h st
 have hM := fun st => k2o false (q66 c k) (k8m hk) 1000 st
 have hdl : (q5e d).length = 32 := by simp [hd]
 have htk : List.take 32 (q5e d) = q5e d := List.take_of_length_le (by omega)
 have hsl : (q5e salt).length = 32 := by simp [hs]
 have hts : List.take 32 (q5e salt) = q5e salt := List.take_of_length_le (by omega)
 have hC := fun (h2 : q6f r e j c k = true) (h3 : q7c (q66 c k) 1000 = true) => y0e false u (m := q66 c k) (q5k t c) d salt hd hs (by
  simp only [q6f, chk, Bool.and_eq_true] at h2
  exact ⟨h2.1.1.1, h3, h2.1.2⟩)
 have hQ := k6c (j42 r e j (q66 c k) k salt) d rfl hd
 generalize hR : PV.tuple [k22 (k4c r e j c d k salt), .bool (k4c r e j c d k salt).isSome, .int (if q6f r e j c k then 0 else 340)] = R
 unfold k4c at hR
 generalize j42 r e j (q66 c k) k salt = D at *
 generalize q6f r e j c k = A at *
 generalize q66 c k = M at *
 generalize q7c M 1000 = B at *
 cases A
 ·have hB := hB2 rfl
  clear hB1 hB2 hC
  have hR' : R = .tuple [.nil, .bool false, .int 340] := hR.symm
  clear hR
  subst hR'
  repeat' (first 
   | (with_reducible refine Fresh.intro fun b hb => ?_) <;> (try simp -dsimp -implicitDefEqProofs [*] at hb)
   | (with_reducible refine Panics.xcall (hB _) ?_)
   | (with_reducible refine Defs.xdef (k35 _ _ 0 _ (by simp [*])) ?_)
   | (simp -dsimp -implicitDefEqProofs [H.q0q.enters, *]))
  repeat' (simp -dsimp -implicitDefEqProofs [q90, *])
 have hB := hB1 rfl
 clear hB1 hB2
 cases B
 ·clear hC
  have hR' : R = .tuple [.nil, .bool false, .int 0] := hR.symm
  clear hR
  subst hR'
  repeat' (first 
   | (with_reducible refine Fresh.intro fun b hb => ?_) <;> (try simp -dsimp -implicitDefEqProofs [*] at hb)
   | (with_reducible refine Rets.xcall (hB _) ?_)
   | (with_reducible refine Rets.xcall (hM _) ?_)
   | (with_reducible refine Defs.xdef (k11 _ _) ?_)
   | (with_reducible refine DrawLate.intro [] ?_)
   | (simp -dsimp -implicitDefEqProofs [H.q0q.enters, *]))
 ·have hC1 := hC rfl rfl
  clear hC
  simp only [Bool.true_and, if_true] at hR
  have hN := q6k h0 h1
  have hsub := sub_all hsl
  repeat' (first 
   | (with_reducible refine Fresh.intro fun b hb => ?_) <;> (try simp -dsimp -implicitDefEqProofs [*] at hb)
   | (with_reducible refine Rets.xcall (hB _) ?_)
   | (with_reducible refine Rets.xcall (hM _) ?_)
   | (with_reducible refine Rets.xcall (hC1 _ (by simp [*]) (by simp [*])) ?_)
   | (with_reducible refine Defs.xdef (k11 _ _) ?_)
   | (with_reducible refine DrawLate.intro [] ?_)
   | (with_reducible refine And.intro (fun h => ?_) (fun h => ?_)) <;> (try (exfalso; omega))
   | (simp -dsimp -implicitDefEqProofs [H.q0q.enters, *]))
  all_goals (rw [← hR]; simp [*, k22])
end Go.Proofs.YtnooplpbpfiapaaGreatDoor
