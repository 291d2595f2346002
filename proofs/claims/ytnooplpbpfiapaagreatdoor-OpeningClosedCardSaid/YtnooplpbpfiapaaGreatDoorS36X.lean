/- Check. -/
import Derived.Test.YtnooplpbpfiapaaGreatDoorS36T
namespace Go.Proofs.YtnooplpbpfiapaaGreatDoor
open Go.Pv Go.Pv.Sha
set_option maxRecDepth 100000
set_option maxHeartbeats 4000000
theorem k64 (b : Nat) (n m : Int) (st : q49) : Defs P F.q0s [.ptr b 0] (.panicking (.iface T.apiErrno (.int n))) ((b, .arr T.apiErrno [.int m]) :: st) .returning ((b, .arr T.apiErrno [.int n]) :: st) := by
 have h := k3z b n m ((b, .arr T.apiErrno [.int m]) :: st) (by simp)
 simpa [q95] using h
def chk (r e j : Int) (l : List Int) : Bool := q7u r e j && q61 l 1073741788
abbrev j3e (r e j : Int) (t : Bool) (l : List Int) (d : List (BitVec 8)) : PV := .agg (q60 r e j t l (q5a d))
theorem z0z (r e j : Int) (t : Bool) (l : List Int) (hl : l.length ≤ 100000) (d : List (BitVec 8)) (st : q49) : Rets P F.q2b [j3e r e j t l d] st (.int (if chk r e j l then 0 else 340)) := by
 refine H.q2b.pure q5i rfl rfl ?_
 have hp := fun st => z3j r e j st
 have hk := fun st => k3h t l hl st
 generalize hR : (if chk r e j l then (0 : Int) else 340) = R
 unfold chk at hR
 generalize q7u r e j = A at *
 generalize q61 l 1073741788 = B at *
 cases A <;> cases B <;> simp only [Bool.and_true, Bool.and_false, Bool.false_eq_true, if_true, if_false] at hR <;> subst hR
 ·repeat' (first 
   | (with_reducible refine Fresh.intro fun b hb => ?_) <;> (try simp -dsimp -implicitDefEqProofs [*] at hb)
   | (with_reducible refine Rets.xcall (hp _) ?_)
   | (simp -dsimp -implicitDefEqProofs [q60, *]))
 ·repeat' (first 
   | (with_reducible refine Fresh.intro fun b hb => ?_) <;> (try simp -dsimp -implicitDefEqProofs [*] at hb)
   | (with_reducible refine Rets.xcall (hp _) ?_)
   | (simp -dsimp -implicitDefEqProofs [q60, *]))
 ·repeat' (first 
   | (with_reducible refine Fresh.intro fun b hb => ?_) <;> (try simp -dsimp -implicitDefEqProofs [*] at hb)
   | (with_reducible refine Rets.xcall (hp _) ?_)
   | (with_reducible refine Rets.xcall (hk _) ?_)
   | (simp -dsimp -implicitDefEqProofs [q60, *]))
 ·repeat' (first 
   | (with_reducible refine Fresh.intro fun b hb => ?_) <;> (try simp -dsimp -implicitDefEqProofs [*] at hb)
   | (with_reducible refine Rets.xcall (hp _) ?_)
   | (with_reducible refine Rets.xcall (hk _) ?_)
   | (simp -dsimp -implicitDefEqProofs [q60, *]))
theorem z7f (r e j : Int) (t : Bool) (l : List Int) (hl : l.length ≤ 100000) (d : List (BitVec 8)) (hd : d.length = 32) (st : q49) : Rets P F.q4e [j3e r e j t l d] st (.int (if chk r e j l then 0 else 340)) := by
 refine H.q4e.pure q5i rfl rfl ?_
 have hp1 : q7u r e j = true → ∀ st, Rets P F.q2n [.agg (.int r :: .int e :: .int j :: q5f t l :: q5a d)] st (.tuple []) := fun h st => j28 r e j t l (q5a d) h st
 have hp2 : q7u r e j = false → ∀ st, Panics P F.q2n [.agg (.int r :: .int e :: .int j :: q5f t l :: q5a d)] st (.iface T.apiErrno (.int 340)) := fun h st => j29 r e j t l (q5a d) h st
 have ha := fun st => k2i t l hl 1073741788 st
 have hdl : (q5a d).length = 32 := by simp [hd]
 have htk : List.take 32 (q5a d) = q5a d := List.take_of_length_le (by omega)
 generalize hR : (if chk r e j l then (0 : Int) else 340) = R
 unfold chk at hR
 generalize q7u r e j = A at *
 generalize q61 l 1073741788 = B at *
 cases A <;> cases B <;> simp only [Bool.and_true, Bool.and_false, Bool.false_eq_true, if_true, if_false] at hR <;> subst hR
 ·have hp3 := hp2 rfl
  clear hp1 hp2
  repeat' (first 
   | (with_reducible refine Fresh.intro fun b hb => ?_) <;> (try simp -dsimp -implicitDefEqProofs [*] at hb)
   | (with_reducible refine Panics.xcall (hp3 _) ?_)
   | (with_reducible refine Defs.xdef (k64 _ _ _ _) ?_)
   | (simp -dsimp -implicitDefEqProofs [q60, H.q0s.enters, *]))
  repeat' (simp -dsimp -implicitDefEqProofs [q9v, *])
 ·have hp3 := hp2 rfl
  clear hp1 hp2
  repeat' (first 
   | (with_reducible refine Fresh.intro fun b hb => ?_) <;> (try simp -dsimp -implicitDefEqProofs [*] at hb)
   | (with_reducible refine Panics.xcall (hp3 _) ?_)
   | (with_reducible refine Defs.xdef (k64 _ _ _ _) ?_)
   | (simp -dsimp -implicitDefEqProofs [q60, H.q0s.enters, *]))
  repeat' (simp -dsimp -implicitDefEqProofs [q9v, *])
 ·have hp3 := hp1 rfl
  clear hp1 hp2
  repeat' (first 
   | (with_reducible refine Fresh.intro fun b hb => ?_) <;> (try simp -dsimp -implicitDefEqProofs [*] at hb)
   | (with_reducible refine Rets.xcall (hp3 _) ?_)
   | (with_reducible refine Rets.xcall (ha _) ?_)
   | (with_reducible refine Panics.xcall (k3e _) ?_)
   | (with_reducible refine Defs.xdef (k64 _ _ _ _) ?_)
   | (simp -dsimp -implicitDefEqProofs [q60, H.q0s.enters, *]))
  repeat' (simp -dsimp -implicitDefEqProofs [q9v, *])
 ·have hp3 := hp1 rfl
  clear hp1 hp2
  repeat' (first 
   | (with_reducible refine Fresh.intro fun b hb => ?_) <;> (try simp -dsimp -implicitDefEqProofs [*] at hb)
   | (with_reducible refine Rets.xcall (hp3 _) ?_)
   | (with_reducible refine Rets.xcall (ha _) ?_)
   | (with_reducible refine Rets.xcall (k62 _) ?_)
   | (with_reducible refine Defs.xdef (k1t _ _) ?_)
   | (simp -dsimp -implicitDefEqProofs [q60, H.q0s.enters, *]))
open Go.Pv Go.Pv.Sha
set_option maxRecDepth 100000
set_option maxHeartbeats 4000000
theorem j0f (r e j : Int) (c : List PV) (h : q7u r e j = true) (st : q49) : Rets P F.q2n [.agg (.int r :: .int e :: .int j :: c)] st (.tuple []) := by
 refine H.q2n.pure q5i rfl rfl ?_
 simp [q7u] at h
 repeat' (first 
  | (with_reducible refine Fresh.intro fun b hb => ?_) <;> (try simp -dsimp -implicitDefEqProofs [*] at hb)
  | (with_reducible refine Rets.xcall (q8v _ _ _) ?_)
  | (with_reducible refine Rets.xcall (k62 _) ?_)
  | (simp -dsimp -implicitDefEqProofs [*]))
theorem k3i (t : Bool) (m : List Nat) : q5f t (m.map fun n : Nat => (n : Int)) = q8b t m := by
 show PV.list t (q6c _) _ = _
 rw [q6c, List.map_map, List.length_map]
 rfl
theorem q51 {l : List Int} {most : Int} (h : q61 l most = true) : ∀ n ∈ l, 0 ≤ n ∧ n ≤ most := by
 intro n hn
 unfold q61 at h
 simp only [Bool.and_eq_true] at h
 have := List.all_eq_true.1 h.2 n hn
 simpa [wi] using this
theorem y0b (t u : Bool) (r e j : Nat) (m k : List Nat) (salt : List (BitVec 8)) (hs : salt.length = 32) (hp : q7u r e j = true) (h : Fit r e j m k (q7z salt)) (hmk : m.length = k.length)
  (hm : q61 (m.map fun n : Nat => (n : Int)) 1000 = true) (hk : q61 (k.map fun n : Nat => (n : Int)) 1073741788 = true) (st : q49) (h0 : q5s st 0 = some (.arr T.t8uint32 Sha.start.row)) (h1 : q5s st 1 = some q87) :
  Rets P F.q4s [.int (r : Int), .int (e : Int), .int (j : Int), q8b t m, q8b u k, .agg (q5a salt)] st (.tuple [.agg (k57 r e j (q5f false (List.zipWith (fun x y => (x + y) % QI) (m.map fun n : Nat => (n : Int)) (k.map fun n : Nat => (n : Int)))) (q7b (q8i q7q) (k8c r e j m k (q7z salt)))), .int 0]) := by
 refine H.q4s.pure q5i rfl rfl ?_
 have hp1 := fun c st => j0f r e j c hp st
 have hmM := fun st => k2i t (m.map fun n : Nat => (n : Int)) (by have := h.m1; simp; omega) 1000 st
 have hkK := fun st => k2i u (k.map fun n : Nat => (n : Int)) (by have := h.k1; simp; omega) 1073741788 st
 have hz : ∀ st, Rets P F.q1c [q8b t m, q8b u k, .func (.func F.q4i) [] []] st (q5f false (List.zipWith (fun x y => (x + y) % QI) (m.map fun n : Nat => (n : Int)) (k.map fun n : Nat => (n : Int)))) := fun st => by
  have h9 := z8y F.q4i (fun x y => (x + y) % QI) t u (m.map fun n : Nat => (n : Int)) (k.map fun n : Nat => (n : Int)) (by have := h.m1; simp; omega) (by simp [hmk]) (fun i hi st => by
   have b1 := q51 hm _ (List.getElem_mem hi)
   have b2 := q51 hk _ (List.getElem_mem (by simpa [hmk] using hi))
   exact j0d _ _ b1.1 (by omega) b2.1 (by omega) st) st
  rwa [k3i, k3i] at h9
 have hsl : (q5a salt).length = 32 := by simp [hs]
 have hsub := sub_all hsl
 have htk : List.take 32 (q5a salt) = q5a salt := List.take_of_length_le (by omega)
 have hc : ∀ st : q49, q5s st 0 = some (.arr T.t8uint32 Sha.start.row) → q5s st 1 = some q87 → Rets P F.q38 [.agg [.int r, .int e, .int j, .list false (q6c (List.zipWith (fun (a b : Nat) => ((a : Int) + (b : Int)) % QI) m k)) k.length, .val (.int .u8 0), .val (.int .u8 0), .val (.int .u8 0), .val (.int .u8 0), .val (.int .u8 0), .val (.int .u8 0), .val (.int .u8 0), .val (.int .u8 0), .val (.int .u8 0), .val (.int .u8 0), .val (.int .u8 0), .val (.int .u8 0), .val (.int .u8 0), .val (.int .u8 0), .val (.int .u8 0), .val (.int .u8 0), .val (.int .u8 0), .val (.int .u8 0), .val (.int .u8 0), .val (.int .u8 0), .val (.int .u8 0), .val (.int .u8 0), .val (.int .u8 0), .val (.int .u8 0), .val (.int .u8 0), .val (.int .u8 0), .val (.int .u8 0), .val (.int .u8 0), .val (.int .u8 0), .val (.int .u8 0), .val (.int .u8 0), .val (.int .u8 0)], q8b t m, q8b u k, .agg (q5a salt)] st (.agg (q5a (q7b (q8i q7q) (k8c r e j m k (q7z salt))))) := fun st h0 h1 =>
  k9v t u (.list false (q6c (List.zipWith (fun (a b : Nat) => ((a : Int) + (b : Int)) % QI) m k)) k.length) (List.replicate 32 0#8) salt rfl hs h st h0 h1
 have hD : (q5a (q7b (q8i q7q) (k8c r e j m k (q7z salt)))).length = 32 := rfl
 have hdub : ∀ a b c d : PV, sub (a :: b :: c :: d :: q5a (q7b (q8i q7q) (k8c r e j m k (q7z salt)))) 0 36 = some (a :: b :: c :: d :: q5a (q7b (q8i q7q) (k8c r e j m k (q7z salt)))) := fun a b c d => sub_all (by simp only [List.length_cons, hD])
 have htd : List.take 32 (q5a (q7b (q8i q7q) (k8c r e j m k (q7z salt)))) = q5a (q7b (q8i q7q) (k8c r e j m k (q7z salt))) := List.take_of_length_le (by omega)
 have hall : ∀ a b c d (L : List PV), L.length = 32 → q5e (a :: b :: c :: d :: L) 4 (q5a (q7b (q8i q7q) (k8c r e j m k (q7z salt)))) = a :: b :: c :: d :: q5a (q7b (q8i q7q) (k8c r e j m k (q7z salt))) := fun a b c d L h => by
  have h9 := q5z (q5a (q7b (q8i q7q) (k8c r e j m k (q7z salt)))) [a, b, c, d] L 0
  rw [q59 _ _ (hD.trans h.symm)] at h9
  exact h9
 generalize q7b (q8i q7q) (k8c r e j m k (q7z salt)) = D at *
 rw [hm, k3i] at hmM
 rw [hk, k3i] at hkK
 repeat' (first 
  | (with_reducible refine Fresh.intro fun b hb => ?_) <;> (try simp -dsimp -implicitDefEqProofs [*] at hb)
  | (with_reducible refine Rets.xcall (hp1 _ _) ?_)
  | (with_reducible refine Rets.xcall (hmM _) ?_)
  | (with_reducible refine Rets.xcall (hkK _) ?_)
  | (with_reducible refine Rets.xcall (k62 _) ?_)
  | (with_reducible refine Rets.xcall (hz _) ?_)
  | (simp -dsimp -implicitDefEqProofs [H.q0s.enters, *]))
 revert b
 intro y hy
 revert b
 intro z hz hy
 revert b
 intro p hp hz hy
 revert b
 intro q hq hp hz hy
 have y0 := (q6g hy.2.2.2 h0).1
 have y1 := (q6g hy.2.2.2 h1).1
 have z0 := (q6g hz.2.2 h0).1
 have z1 := (q6g hz.2.2 h1).1
 have p0 := (q6g hp.2 h0).1
 have p1 := (q6g hp.2 h1).1
 have q0 := (q6g hq h0).1
 have q1 := (q6g hq h1).1
 have hc' := fun R R1 R2 R3 => hc ((y, .arr T.apiSealed R) :: (z, .arr T.apiErrno R1) :: (p, .arr T.apiSealed R2) :: (q, .arr T.apiDigest R3) :: st) (by simp [y0, z0, p0, q0, h0]) (by simp [y1, z1, p1, q1, h1])
 clear hc
 repeat' (first 
  | (with_reducible refine Rets.xcall (hc' _ _ _ _) ?_)
  | (with_reducible refine Defs.xdef (k1t _ _) ?_)
  | (simp -dsimp -implicitDefEqProofs [H.q0s.enters, *]))
def y64 (r e j : Int) (m k : List Int) : Bool := q7u r e j && q61 m 1000 && q61 k 1073741788 && decide (m.length = k.length)
abbrev z32 : List (BitVec 8) := List.replicate 32 0#8
abbrev q7c : List PV := [.int 0, .int 0, .int 0, .nil, .val (.int .u8 0), .val (.int .u8 0), .val (.int .u8 0), .val (.int .u8 0), .val (.int .u8 0), .val (.int .u8 0), .val (.int .u8 0), .val (.int .u8 0), .val (.int .u8 0), .val (.int .u8 0), .val (.int .u8 0), .val (.int .u8 0), .val (.int .u8 0), .val (.int .u8 0), .val (.int .u8 0), .val (.int .u8 0), .val (.int .u8 0), .val (.int .u8 0), .val (.int .u8 0), .val (.int .u8 0), .val (.int .u8 0), .val (.int .u8 0), .val (.int .u8 0), .val (.int .u8 0), .val (.int .u8 0), .val (.int .u8 0), .val (.int .u8 0), .val (.int .u8 0), .val (.int .u8 0), .val (.int .u8 0), .val (.int .u8 0), .val (.int .u8 0)]
open Go.Pv Go.Pv.Sha
set_option maxRecDepth 100000
set_option maxHeartbeats 4000000
theorem y46 {a b : BitVec 8} : (a.toNat : Int) = b.toNat ↔ a = b := by
 constructor
 ·intro h
  exact BitVec.eq_of_toNat_eq (by omega)
 ·rintro rfl
  rfl
theorem k58 : ∀ (a b : List (BitVec 8)), a.length = b.length → q58 (List.replicate a.length .int) (q5a a) (q5a b) = some (decide (a = b))
 | [], [], _ => rfl
 | x :: a, y :: b, h => by
  have ih := k58 a b (by simpa using h)
  show (match q9t .int (bv x) (bv y), q58 (List.replicate a.length .int) (q5a a) (q5a b) with
   | some a, some b => some (a && b)
   | _, _ => none) = _
  rw [ih]
  have e : q9t .int (bv x) (bv y) = some (decide (x = y)) := by
   by_cases hxy : x = y
   ·simp [q9t, hxy]
   ·simp only [hxy, decide_false]
    simp [q9t]
    exact fun h => hxy (by simpa [u8, y46] using h)
  rw [e]
  simp only [List.cons.injEq, Bool.decide_and]
theorem k1v (a b : List (BitVec 8)) (ha : a.length = 32) (hb : b.length = 32) : q58 [.int, .int, .int, .int, .int, .int, .int, .int, .int, .int, .int, .int, .int, .int, .int, .int, .int, .int, .int, .int, .int, .int, .int, .int, .int, .int, .int, .int, .int, .int, .int, .int] (q5a a) (q5a b) = some (decide (a = b)) := by
 have h := k58 a b (by omega)
 rw [ha] at h
 exact h
abbrev k9w (r e j : Int) (c : PV) (d : List (BitVec 8)) : PV := .agg (.int r :: .int e :: .int j :: c :: q5a d)
theorem j3f (r e j : Int) (t : Bool) (l : List Int) (hl : l.length ≤ 100000) (d : List (BitVec 8)) (hd : d.length = 32) (st : q49) : Rets P F.q4e [k9w r e j (q5f t l) d] st (.int (if chk r e j l then 0 else 340)) := z7f r e j t l hl d hd st
theorem k9x (r e j : Int) (t : Bool) (l : List Int) (hl : l.length ≤ 100000) (d : List (BitVec 8)) (st : q49) : Rets P F.q2b [k9w r e j (q5f t l) d] st (.int (if chk r e j l then 0 else 340)) := z0z r e j t l hl d st
def q6d (r e j : Int) (c k : List Int) : Bool := chk r e j c && q61 k 1073741788 && decide (k.length = c.length)
def q66 (c k : List Int) : List Int := List.zipWith z3l c k
theorem z5g {c k : List Int} (h : k.length = c.length) : (q66 c k).length = c.length := by simp [q66, h]
theorem k1w {l : List Int} {most : Int} (h : q61 l most = true) : 1 ≤ l.length ∧ l.length ≤ 64 := by
 unfold q61 at h
 simp only [Bool.and_eq_true, decide_eq_true_eq] at h
 exact h.1
theorem j3g (t u : Bool) (r e j : Int) (c k : List Int) (hc : c.length ≤ 100000) (hk : k.length ≤ 100000) (d : List (BitVec 8)) (hd : d.length = 32) (h : q6d r e j c k = true) (st : q49) :
  Rets P F.q4o [k9w r e j (q5f t c) d, q5f u k] st (q5f false (q66 c k)) := by
 refine H.q4o.pure q5i rfl rfl ?_
 have hC := fun st => j3f r e j t c hc d hd st
 have hK := fun st => k2i u k hk 1073741788 st
 simp only [q6d, Bool.and_eq_true, decide_eq_true_eq] at h
 obtain ⟨⟨h1, h2⟩, h3⟩ := h
 have h4 : q61 c 1073741788 = true := by
  unfold chk at h1
  simp only [Bool.and_eq_true] at h1
  exact h1.2
 have hz : ∀ st, Rets P F.q1c [q5f t c, q5f u k, .func (.func F.q4j) [] []] st (q5f false (q66 c k)) := fun st =>
  z8y F.q4j z3l t u c k (by have := k1w h4; omega) h3.symm (fun i hi st => by
   have b1 := q51 h4 _ (List.getElem_mem hi)
   have b2 := q51 h2 _ (List.getElem_mem (by rw [h3]; exact hi))
   exact j0e _ _ b1.1 (by omega) b2.1 (by omega) st) st
 rw [h1, if_pos rfl] at hC
 rw [h2] at hK
 have hdl : (q5a d).length = 32 := by simp [hd]
 have htk : List.take 32 (q5a d) = q5a d := List.take_of_length_le (by omega)
 clear h1 h2 h4
 repeat' (first 
  | (with_reducible refine Fresh.intro fun b hb => ?_) <;> (try simp -dsimp -implicitDefEqProofs [*] at hb)
  | (with_reducible refine Rets.xcall (hC _) ?_)
  | (with_reducible refine Rets.xcall (hK _) ?_)
  | (with_reducible refine Rets.xcall (k62 _) ?_)
  | (with_reducible refine Rets.xcall (hz _) ?_)
  | (simp -dsimp -implicitDefEqProofs [*]))
theorem j3h (t u : Bool) (r e j : Int) (c k : List Int) (hc : c.length ≤ 100000) (hk : k.length ≤ 100000) (d : List (BitVec 8)) (hd : d.length = 32) (h : q6d r e j c k = false) (st : q49) :
  Panics P F.q4o [k9w r e j (q5f t c) d, q5f u k] st (.iface T.apiErrno (.int 340)) := by
 refine H.q4o.panics q5i rfl rfl ?_
 have hC := fun st => j3f r e j t c hc d hd st
 have hK := fun st => k2i u k hk 1073741788 st
 unfold q6d at h
 have hdl : (q5a d).length = 32 := by simp [hd]
 have htk : List.take 32 (q5a d) = q5a d := List.take_of_length_le (by omega)
 generalize chk r e j c = A at *
 generalize q61 k 1073741788 = B at *
 cases A
 ·repeat' (first 
   | (with_reducible refine Fresh.intro fun b hb => ?_) <;> (try simp -dsimp -implicitDefEqProofs [*] at hb)
   | (with_reducible refine Rets.xcall (hC _) ?_)
   | (with_reducible refine Panics.xcall (k3e _) ?_)
   | (simp -dsimp -implicitDefEqProofs [*]))
 cases B
 ·repeat' (first 
   | (with_reducible refine Fresh.intro fun b hb => ?_) <;> (try simp -dsimp -implicitDefEqProofs [*] at hb)
   | (with_reducible refine Rets.xcall (hC _) ?_)
   | (with_reducible refine Rets.xcall (hK _) ?_)
   | (with_reducible refine Panics.xcall (k3e _) ?_)
   | (simp -dsimp -implicitDefEqProofs [*]))
 ·have h' : ¬ k.length = c.length := by simpa using h
  clear h
  have h8 : decide ((k.length : Int) = (c.length : Int)) = false := by simp; omega
  repeat' (first 
   | (with_reducible refine Fresh.intro fun b hb => ?_) <;> (try simp -dsimp -implicitDefEqProofs [*] at hb)
   | (with_reducible refine Rets.xcall (hC _) ?_)
   | (with_reducible refine Rets.xcall (hK _) ?_)
   | (with_reducible refine Panics.xcall (k3e _) ?_)
   | (simp -dsimp -implicitDefEqProofs [*]))
theorem k9y {l : List Int} (h : ∀ n ∈ l, 0 ≤ n) : (l.map Int.toNat).map (fun n : Nat => (n : Int)) = l := by
 rw [List.map_map]
 conv => rhs; rw [← List.map_id l]
 exact List.map_congr_left fun n hn => Int.toNat_of_nonneg (h n hn)
structure Right (r e j : Int) (m k : List Int) : Prop where
 hp : q7u r e j = true
 hm : q61 m 1000 = true
 hk : q61 k 1073741788 = true
theorem k8q {r e j : Int} (h : q7u r e j = true) : (0 ≤ r ∧ r ≤ 7) ∧ (0 ≤ e ∧ e ≤ 4095) ∧ (0 ≤ j ∧ j ≤ 255) := by
 simpa [q7u, wi, and_assoc] using h
theorem Right.fit {r e j : Int} {m k : List Int} (h : Right r e j m k) {salt : List (BitVec 8)} (hs : salt.length = 32) : Fit r.toNat e.toNat j.toNat (m.map Int.toNat) (k.map Int.toNat) (q7z salt) := by
 have h1 := k8q h.hp
 have hm := q51 h.hm
 have hk := q51 h.hk
 have lm := k1w h.hm
 have lk := k1w h.hk
 refine ⟨by unfold BIG; omega, by unfold BIG; omega, by unfold BIG; omega, ?_, ?_, by simp; omega, by simp; omega, by simp; omega, by simp; omega, by rw [j0b]; omega⟩
 ·intro n hn
  obtain ⟨x, hx, rfl⟩ := List.mem_map.1 hn
  have := hm x hx
  unfold BIG; omega
 ·intro n hn
  obtain ⟨x, hx, rfl⟩ := List.mem_map.1 hn
  have := hk x hx
  unfold BIG; omega
def y2t (r e j : Int) (m k : List Int) (salt : List (BitVec 8)) : List (BitVec 8) := k8c r.toNat e.toNat j.toNat (m.map Int.toNat) (k.map Int.toNat) (q7z salt)
def j4u (r e j : Int) (m k : List Int) (salt : List (BitVec 8)) : List (BitVec 8) := q7b (q8i q7q) (y2t r e j m k salt)
theorem k1x (t : Bool) {l : List Int} (h : ∀ n ∈ l, 0 ≤ n) : q8b t (l.map Int.toNat) = q5f t l := by
 rw [← k3i, k9y h]
theorem y0c (t u : Bool) {r e j : Int} {m k : List Int} (c : PV) (d salt : List (BitVec 8)) (hd : d.length = 32) (hs : salt.length = 32) (h : Right r e j m k) (st : q49) (h0 : q5s st 0 = some (.arr T.t8uint32 Sha.start.row)) (h1 : q5s st 1 = some q87) :
  Rets P F.q38 [k9w r e j c d, q5f t m, q5f u k, .agg (q5a salt)] st (.agg (q5a (j4u r e j m k salt))) := by
 have h9 := k9v t u c d salt hd hs (h.fit hs) st h0 h1
 have h2 := k8q h.hp
 rwa [k1x t fun n hn => (q51 h.hm n hn).1, k1x u fun n hn => (q51 h.hk n hn).1, k57, Int.toNat_of_nonneg h2.1.1, Int.toNat_of_nonneg h2.2.1.1, Int.toNat_of_nonneg h2.2.2.1] at h9
def k1y (m k : List Int) : List Int := List.zipWith (fun x y => (x + y) % QI) m k
theorem j58 (t u : Bool) {r e j : Int} {m k : List Int} (salt : List (BitVec 8)) (hs : salt.length = 32) (h : y64 r e j m k = true) (st : q49) (h0 : q5s st 0 = some (.arr T.t8uint32 Sha.start.row)) (h1 : q5s st 1 = some q87) :
  Rets P F.q4s [.int r, .int e, .int j, q5f t m, q5f u k, .agg (q5a salt)] st (.tuple [k9w r e j (q5f false (k1y m k)) (j4u r e j m k salt), .int 0]) := by
 simp only [y64, Bool.and_eq_true, decide_eq_true_eq] at h
 obtain ⟨⟨⟨a1, a2⟩, a3⟩, a4⟩ := h
 have hr : Right r e j m k := ⟨a1, a2, a3⟩
 have h2 := k8q a1
 have em := k9y fun n hn => (q51 a2 n hn).1
 have ek := k9y fun n hn => (q51 a3 n hn).1
 have h9 := y0b t u r.toNat e.toNat j.toNat (m.map Int.toNat) (k.map Int.toNat) salt hs (by rw [Int.toNat_of_nonneg h2.1.1, Int.toNat_of_nonneg h2.2.1.1, Int.toNat_of_nonneg h2.2.2.1]; exact a1) (hr.fit hs) (by simpa using a4) (by rw [em]; exact a2) (by rw [ek]; exact a3) st h0 h1
 rwa [k1x t fun n hn => (q51 a2 n hn).1, k1x u fun n hn => (q51 a3 n hn).1, em, ek, k57, Int.toNat_of_nonneg h2.1.1, Int.toNat_of_nonneg h2.2.1.1, Int.toNat_of_nonneg h2.2.2.1] at h9
theorem j59 (t u : Bool) {r e j : Int} {m k : List Int} (salt : List (BitVec 8)) (hs : salt.length = 32) (h : Right r e j m k) (st : q49) : Rets P F.q3l [.int r, .int e, .int j, q5f t m, q5f u k, .agg (q5a salt)] st (q5o false (y2t r e j m k salt)) := by
 have h9 := z5e t u salt hs (h.fit hs) st
 have h2 := k8q h.hp
 rwa [k1x t fun n hn => (q51 h.hm n hn).1, k1x u fun n hn => (q51 h.hk n hn).1, Int.toNat_of_nonneg h2.1.1, Int.toNat_of_nonneg h2.2.1.1, Int.toNat_of_nonneg h2.2.2.1] at h9
def k6k : Option (List Int) → PV
 | none => .nil
 | some l => q5f false l
def q97 (r e j : Int) (c k : List Int) : Option (List Int) := if q6d r e j c k && q61 (q66 c k) 1000 then some (q66 c k) else none
def y47 {α : Type} : Option α → Int
 | none => 340
 | some _ => 0
theorem z3n {c k : List Int} (hk : k.length ≤ 100000) : (q66 c k).length ≤ 100000 := by simp [q66]; omega
theorem z13 (t u : Bool) (r e j : Int) (c k : List Int) (hc : c.length ≤ 100000) (hk : k.length ≤ 100000) (d : List (BitVec 8)) (hd : d.length = 32) (st : q49) :
  Rets P F.q4d [k9w r e j (q5f t c) d, q5f u k] st (.tuple [k6k (q97 r e j c k), .int (y47 (q97 r e j c k))]) := by
 refine H.q4d.pure q5i rfl rfl ?_
 have hB1 := fun (h : q6d r e j c k = true) st => j3g t u r e j c k hc hk d hd h st
 have hB2 := fun (h : q6d r e j c k = false) st => j3h t u r e j c k hc hk d hd h st
 have hM := fun st => k2i false (q66 c k) (z3n hk) 1000 st
 have hdl : (q5a d).length = 32 := by simp [hd]
 have htk : List.take 32 (q5a d) = q5a d := List.take_of_length_le (by omega)
 generalize hR : PV.tuple [k6k (q97 r e j c k), .int (y47 (q97 r e j c k))] = R
 unfold q97 at hR
 generalize q6d r e j c k = A at *
 generalize q66 c k = M at *
 generalize q61 M 1000 = B at *
 cases A
 ·have hB := hB2 rfl
  clear hB1 hB2
  have hR' : R = .tuple [.nil, .int 340] := hR.symm
  clear hR
  subst hR'
  repeat' (first 
   | (with_reducible refine Fresh.intro fun b hb => ?_) <;> (try simp -dsimp -implicitDefEqProofs [*] at hb)
   | (with_reducible refine Panics.xcall (hB _) ?_)
   | (with_reducible refine Defs.xdef (k3z _ _ 0 _ (by simp [*])) ?_)
   | (simp -dsimp -implicitDefEqProofs [H.q0s.enters, *]))
  repeat' (simp -dsimp -implicitDefEqProofs [q9v, *])
 have hB := hB1 rfl
 clear hB1 hB2
 cases B
 ·have hR' : R = .tuple [.nil, .int 340] := hR.symm
  clear hR
  subst hR'
  repeat' (first 
   | (with_reducible refine Fresh.intro fun b hb => ?_) <;> (try simp -dsimp -implicitDefEqProofs [*] at hb)
   | (with_reducible refine Rets.xcall (hB _) ?_)
   | (with_reducible refine Rets.xcall (hM _) ?_)
   | (with_reducible refine Panics.xcall (k3e _) ?_)
   | (with_reducible refine Defs.xdef (k3z _ _ 0 _ (by simp [*])) ?_)
   | (simp -dsimp -implicitDefEqProofs [H.q0s.enters, *]))
  repeat' (simp -dsimp -implicitDefEqProofs [q9v, *])
 ·have hR' : R = .tuple [q5f false M, .int 0] := hR.symm
  clear hR
  subst hR'
  repeat' (first 
   | (with_reducible refine Fresh.intro fun b hb => ?_) <;> (try simp -dsimp -implicitDefEqProofs [*] at hb)
   | (with_reducible refine Rets.xcall (hB _) ?_)
   | (with_reducible refine Rets.xcall (hM _) ?_)
   | (with_reducible refine Rets.xcall (k62 _) ?_)
   | (with_reducible refine Defs.xdef (k1t _ _) ?_)
   | (simp -dsimp -implicitDefEqProofs [H.q0s.enters, *]))
def Snew (st : q49) (b : Nat) : Prop := q6p st b
theorem q6a {st : q49} {o o' : PObj} (h0 : q5s st 0 = some o) (h1 : q5s st 1 = some o') (b : Nat) : q6p st b = ((¬ 0 = b ∧ ¬ b = 0) ∧ (¬ 1 = b ∧ ¬ b = 1) ∧ Snew st b) := by
 refine propext ⟨fun h => ?_, fun h => h.2.2⟩
 have a := (q6g h h0).1
 have c := (q6g h h1).1
 exact ⟨⟨fun e => a e.symm, a⟩, ⟨fun e => c e.symm, c⟩, h⟩
def k40 (r e j : Int) (c : List Int) (d : List (BitVec 8)) (k : List Int) (salt : List (BitVec 8)) : Option (List Int) := if q6d r e j c k && q61 (q66 c k) 1000 && decide (j4u r e j (q66 c k) k salt = d) then some (q66 c k) else none
theorem z5h (t u : Bool) (r e j : Int) (c k : List Int) (hc : c.length ≤ 100000) (hk : k.length ≤ 100000) (d salt : List (BitVec 8)) (hd : d.length = 32) (hs : salt.length = 32) (st : q49) (h0 : q5s st 0 = some (.arr T.t8uint32 Sha.start.row)) (h1 : q5s st 1 = some q87) :
  Rets P F.q4p [k9w r e j (q5f t c) d, q5f u k, .agg (q5a salt)] st (.tuple [k6k (k40 r e j c d k salt), .bool (k40 r e j c d k salt).isSome, .int (if q6d r e j c k then 0 else 340)]) := by
 refine H.q4p.pure q5i rfl rfl ?_
 have hB1 := fun (h : q6d r e j c k = true) st => j3g t u r e j c k hc hk d hd h st
 have hB2 := fun (h : q6d r e j c k = false) st => j3h t u r e j c k hc hk d hd h st
 have hM := fun st => k2i false (q66 c k) (z3n hk) 1000 st
 have hdl : (q5a d).length = 32 := by simp [hd]
 have htk : List.take 32 (q5a d) = q5a d := List.take_of_length_le (by omega)
 have hsl : (q5a salt).length = 32 := by simp [hs]
 have hts : List.take 32 (q5a salt) = q5a salt := List.take_of_length_le (by omega)
 have hC := fun (h2 : q6d r e j c k = true) (h3 : q61 (q66 c k) 1000 = true) => y0c false u (m := q66 c k) (q5f t c) d salt hd hs (by
  simp only [q6d, chk, Bool.and_eq_true] at h2
  exact ⟨h2.1.1.1, h3, h2.1.2⟩)
 have hQ := k1v (j4u r e j (q66 c k) k salt) d rfl hd
 generalize hR : PV.tuple [k6k (k40 r e j c d k salt), .bool (k40 r e j c d k salt).isSome, .int (if q6d r e j c k then 0 else 340)] = R
 unfold k40 at hR
 generalize j4u r e j (q66 c k) k salt = D at *
 generalize q6d r e j c k = A at *
 generalize q66 c k = M at *
 generalize q61 M 1000 = B at *
 cases A
 ·have hB := hB2 rfl
  clear hB1 hB2 hC
  have hR' : R = .tuple [.nil, .bool false, .int 340] := hR.symm
  clear hR
  subst hR'
  repeat' (first 
   | (with_reducible refine Fresh.intro fun b hb => ?_) <;> (try simp -dsimp -implicitDefEqProofs [*] at hb)
   | (with_reducible refine Panics.xcall (hB _) ?_)
   | (with_reducible refine Defs.xdef (k3z _ _ 0 _ (by simp [*])) ?_)
   | (simp -dsimp -implicitDefEqProofs [H.q0s.enters, *]))
  repeat' (simp -dsimp -implicitDefEqProofs [q9v, *])
 have hB := hB1 rfl
 clear hB1 hB2
 cases B
 ·clear hC
  have hR' : R = .tuple [.nil, .bool false, .int 0] := hR.symm
  clear hR
  subst hR'
  repeat' (first 
   | (with_reducible refine Fresh.intro fun b hb => ?_) <;> (try simp -dsimp -implicitDefEqProofs [*] at hb)
   | (with_reducible refine Rets.xcall (hB _) ?_)
   | (with_reducible refine Rets.xcall (hM _) ?_)
   | (with_reducible refine Defs.xdef (k1t _ _) ?_)
   | (with_reducible refine DrawLate.intro [] ?_)
   | (simp -dsimp -implicitDefEqProofs [H.q0s.enters, *]))
 ·have hC1 := hC rfl rfl
  clear hC
  simp only [Bool.true_and, if_true] at hR
  have hN := q6a h0 h1
  have hsub := sub_all hsl
  repeat' (first 
   | (with_reducible refine Fresh.intro fun b hb => ?_) <;> (try simp -dsimp -implicitDefEqProofs [*] at hb)
   | (with_reducible refine Rets.xcall (hB _) ?_)
   | (with_reducible refine Rets.xcall (hM _) ?_)
   | (with_reducible refine Rets.xcall (hC1 _ (by simp [*]) (by simp [*])) ?_)
   | (with_reducible refine Defs.xdef (k1t _ _) ?_)
   | (with_reducible refine DrawLate.intro [] ?_)
   | (with_reducible refine And.intro (fun h => ?_) (fun h => ?_)) <;> (try (exfalso; omega))
   | (simp -dsimp -implicitDefEqProofs [H.q0s.enters, *]))
  all_goals (rw [← hR]; simp [*, k6k])
end Go.Proofs.YtnooplpbpfiapaaGreatDoor
