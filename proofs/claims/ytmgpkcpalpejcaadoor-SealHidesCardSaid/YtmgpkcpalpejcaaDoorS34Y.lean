/- Make. -/
import Derived.Test.YtmgpkcpalpejcaaDoorS34U
namespace Go.Proofs.YtmgpkcpalpejcaaDoor
open Go.Pv Go.Pv.Sha
set_option maxRecDepth 100000
set_option maxHeartbeats 4000000
theorem placedC_ok (r e j : Int) (c : List PV) (h : placeOk r e j = true) (st : Store) : Rets P F.seal_placed [.agg (.int r :: .int e :: .int j :: c)] st (.tuple []) := by
  refine H.seal_placed.pure hmix rfl rfl ?_
  simp [placeOk] at h
  repeat' (first 
   | (with_reducible refine Fresh.intro fun b hb => ?_) <;> (try simp -dsimp -implicitDefEqProofs [*] at hb)
   | (with_reducible refine Rets.xcall (within_spec _ _ _) ?_)
   | (with_reducible refine Rets.xcall (need_ok _) ?_)
   | (simp -dsimp -implicitDefEqProofs [*]))
theorem natLst_eq (t : Bool) (m : List Nat) : intLst t (m.map fun n : Nat => (n : Int)) = natLst t m := by
  show PV.list t (intRow _) _ = _
  rw [intRow, List.map_map, List.length_map]
  rfl
theorem inAll_bound {l : List Int} {most : Int} (h : inAll l most = true) : ∀ n ∈ l, 0 ≤ n ∧ n ≤ most := by
  intro n hn
  unfold inAll at h
  simp only [Bool.and_eq_true] at h
  have := List.all_eq_true.1 h.2 n hn
  simpa [wi] using this
theorem make_ok (t u : Bool) (r e j : Nat) (m k : List Nat) (salt : List (BitVec 8)) (hs : salt.length = 32) (hp : placeOk r e j = true) (h : Fit r e j m k (saltS salt)) (hmk : m.length = k.length)
    (hm : inAll (m.map fun n : Nat => (n : Int)) 1000 = true) (hk : inAll (k.map fun n : Nat => (n : Int)) 1073741788 = true) (st : Store) (h0 : sget st 0 = some (.arr T.t8uint32 Sha.start.row)) (h1 : sget st 1 = some numsO) :
    Rets P F.seal_Make [.int (r : Int), .int (e : Int), .int (j : Int), natLst t m, natLst u k, .agg (byteRow salt)] st (.tuple [.agg (sealedRow r e j (intLst false (List.zipWith (fun x y => (x + y) % QI) (m.map fun n : Nat => (n : Int)) (k.map fun n : Nat => (n : Int)))) (tagged (strB cardTag) (comB r e j m k (saltS salt)))), .int 0]) := by
  refine H.seal_Make.pure hmix rfl rfl ?_
  have hp1 := fun c st => placedC_ok r e j c hp st
  have hmM := fun st => all_spec t (m.map fun n : Nat => (n : Int)) (by have := h.m1; simp; omega) 1000 st
  have hkK := fun st => all_spec u (k.map fun n : Nat => (n : Int)) (by have := h.k1; simp; omega) 1073741788 st
  have hz : ∀ st, Rets P F.seal_zip__int_int_int [natLst t m, natLst u k, .func (.func F.seal_Make_1) [] []] st (intLst false (List.zipWith (fun x y => (x + y) % QI) (m.map fun n : Nat => (n : Int)) (k.map fun n : Nat => (n : Int)))) := fun st => by
    have h9 := zip_spec F.seal_Make_1 (fun x y => (x + y) % QI) t u (m.map fun n : Nat => (n : Int)) (k.map fun n : Nat => (n : Int)) (by have := h.m1; simp; omega) (by simp [hmk]) (fun i hi st => by
      have b1 := inAll_bound hm _ (List.getElem_mem hi)
      have b2 := inAll_bound hk _ (List.getElem_mem (by simpa [hmk] using hi))
      exact make1_spec _ _ b1.1 (by omega) b2.1 (by omega) st) st
    rwa [natLst_eq, natLst_eq] at h9
  have hsl : (byteRow salt).length = 32 := by simp [hs]
  have hsub := sub_all hsl
  have htk : List.take 32 (byteRow salt) = byteRow salt := List.take_of_length_le (by omega)
  have hc : ∀ st : Store, sget st 0 = some (.arr T.t8uint32 Sha.start.row) → sget st 1 = some numsO → Rets P F.seal_commit [.agg [.int r, .int e, .int j, .list false (intRow (List.zipWith (fun (a b : Nat) => ((a : Int) + (b : Int)) % QI) m k)) k.length, .val (.int .u8 0), .val (.int .u8 0), .val (.int .u8 0), .val (.int .u8 0), .val (.int .u8 0), .val (.int .u8 0), .val (.int .u8 0), .val (.int .u8 0), .val (.int .u8 0), .val (.int .u8 0), .val (.int .u8 0), .val (.int .u8 0), .val (.int .u8 0), .val (.int .u8 0), .val (.int .u8 0), .val (.int .u8 0), .val (.int .u8 0), .val (.int .u8 0), .val (.int .u8 0), .val (.int .u8 0), .val (.int .u8 0), .val (.int .u8 0), .val (.int .u8 0), .val (.int .u8 0), .val (.int .u8 0), .val (.int .u8 0), .val (.int .u8 0), .val (.int .u8 0), .val (.int .u8 0), .val (.int .u8 0), .val (.int .u8 0), .val (.int .u8 0)], natLst t m, natLst u k, .agg (byteRow salt)] st (.agg (byteRow (tagged (strB cardTag) (comB r e j m k (saltS salt))))) := fun st h0 h1 =>
    commit_spec t u (.list false (intRow (List.zipWith (fun (a b : Nat) => ((a : Int) + (b : Int)) % QI) m k)) k.length) (List.replicate 32 0#8) salt rfl hs h st h0 h1
  have hD : (byteRow (tagged (strB cardTag) (comB r e j m k (saltS salt)))).length = 32 := rfl
  have hdub : ∀ a b c d : PV, sub (a :: b :: c :: d :: byteRow (tagged (strB cardTag) (comB r e j m k (saltS salt)))) 0 36 = some (a :: b :: c :: d :: byteRow (tagged (strB cardTag) (comB r e j m k (saltS salt)))) := fun a b c d => sub_all (by simp only [List.length_cons, hD])
  have htd : List.take 32 (byteRow (tagged (strB cardTag) (comB r e j m k (saltS salt)))) = byteRow (tagged (strB cardTag) (comB r e j m k (saltS salt))) := List.take_of_length_le (by omega)
  have hall : ∀ a b c d (L : List PV), L.length = 32 → setCells (a :: b :: c :: d :: L) 4 (byteRow (tagged (strB cardTag) (comB r e j m k (saltS salt)))) = a :: b :: c :: d :: byteRow (tagged (strB cardTag) (comB r e j m k (saltS salt))) := fun a b c d L h => by
    have h9 := setCells_append_right (byteRow (tagged (strB cardTag) (comB r e j m k (saltS salt)))) [a, b, c, d] L 0
    rw [setCells_all _ _ (hD.trans h.symm)] at h9
    exact h9
  generalize tagged (strB cardTag) (comB r e j m k (saltS salt)) = D at *
  rw [hm, natLst_eq] at hmM
  rw [hk, natLst_eq] at hkK
  repeat' (first 
   | (with_reducible refine Fresh.intro fun b hb => ?_) <;> (try simp -dsimp -implicitDefEqProofs [*] at hb)
   | (with_reducible refine Rets.xcall (hp1 _ _) ?_)
   | (with_reducible refine Rets.xcall (hmM _) ?_)
   | (with_reducible refine Rets.xcall (hkK _) ?_)
   | (with_reducible refine Rets.xcall (need_ok _) ?_)
   | (with_reducible refine Rets.xcall (hz _) ?_)
   | (simp -dsimp -implicitDefEqProofs [H.seal_caught.enters, *]))
  revert b
  intro y hy
  revert b
  intro z hz hy
  revert b
  intro p hp hz hy
  revert b
  intro q hq hp hz hy
  have y0 := (snew_ne hy.2.2.2 h0).1
  have y1 := (snew_ne hy.2.2.2 h1).1
  have z0 := (snew_ne hz.2.2 h0).1
  have z1 := (snew_ne hz.2.2 h1).1
  have p0 := (snew_ne hp.2 h0).1
  have p1 := (snew_ne hp.2 h1).1
  have q0 := (snew_ne hq h0).1
  have q1 := (snew_ne hq h1).1
  have hc' := fun R R1 R2 R3 => hc ((y, .arr T.apiSealed R) :: (z, .arr T.apiErrno R1) :: (p, .arr T.apiSealed R2) :: (q, .arr T.apiDigest R3) :: st) (by simp [y0, z0, p0, q0, h0]) (by simp [y1, z1, p1, q1, h1])
  clear hc
  repeat' (first 
   | (with_reducible refine Rets.xcall (hc' _ _ _ _) ?_)
   | (with_reducible refine Defs.xdef (caught_ret _ _) ?_)
   | (simp -dsimp -implicitDefEqProofs [H.seal_caught.enters, *]))
def mkOk (r e j : Int) (m k : List Int) : Bool := placeOk r e j && inAll m 1000 && inAll k 1073741788 && decide (m.length = k.length)
abbrev z32 : List (BitVec 8) := List.replicate 32 0#8
abbrev zeroCard : List PV := [.int 0, .int 0, .int 0, .nil, .val (.int .u8 0), .val (.int .u8 0), .val (.int .u8 0), .val (.int .u8 0), .val (.int .u8 0), .val (.int .u8 0), .val (.int .u8 0), .val (.int .u8 0), .val (.int .u8 0), .val (.int .u8 0), .val (.int .u8 0), .val (.int .u8 0), .val (.int .u8 0), .val (.int .u8 0), .val (.int .u8 0), .val (.int .u8 0), .val (.int .u8 0), .val (.int .u8 0), .val (.int .u8 0), .val (.int .u8 0), .val (.int .u8 0), .val (.int .u8 0), .val (.int .u8 0), .val (.int .u8 0), .val (.int .u8 0), .val (.int .u8 0), .val (.int .u8 0), .val (.int .u8 0), .val (.int .u8 0), .val (.int .u8 0), .val (.int .u8 0), .val (.int .u8 0)]
theorem placedC_no (r e j : Int) (c : List PV) (h : placeOk r e j = false) (st : Store) : Panics P F.seal_placed [.agg (.int r :: .int e :: .int j :: c)] st (.iface T.apiErrno (.int 340)) := by
  refine H.seal_placed.panics hmix rfl rfl ?_
  have h2 : wi r 7 = true → wi e 4095 = true → wi j 255 = false := fun a b => by simpa [placeOk, a, b] using h
  cases h3 : wi r 7 with
  | false =>
    clear h h2
    repeat' (first 
     | (with_reducible refine Fresh.intro fun b hb => ?_) <;> (try simp -dsimp -implicitDefEqProofs [*] at hb)
     | (with_reducible refine Rets.xcall (within_spec _ _ _) ?_)
     | (with_reducible refine Panics.xcall (need_no _) ?_)
     | (simp -dsimp -implicitDefEqProofs [*]))
  | true =>
    cases h4 : wi e 4095 with
    | false =>
      clear h h2
      repeat' (first 
       | (with_reducible refine Fresh.intro fun b hb => ?_) <;> (try simp -dsimp -implicitDefEqProofs [*] at hb)
       | (with_reducible refine Rets.xcall (within_spec _ _ _) ?_)
       | (with_reducible refine Panics.xcall (need_no _) ?_)
       | (simp -dsimp -implicitDefEqProofs [*]))
    | true =>
      have h5 := h2 h3 h4
      clear h h2
      repeat' (first 
       | (with_reducible refine Fresh.intro fun b hb => ?_) <;> (try simp -dsimp -implicitDefEqProofs [*] at hb)
       | (with_reducible refine Rets.xcall (within_spec _ _ _) ?_)
       | (with_reducible refine Panics.xcall (need_no _) ?_)
       | (simp -dsimp -implicitDefEqProofs [*]))
theorem make_no (t u : Bool) (r e j : Int) (m k : List Int) (hml : m.length ≤ 100000) (hkl : k.length ≤ 100000) (salt : List (BitVec 8)) (hs : salt.length = 32) (h : mkOk r e j m k = false) (st : Store) :
    Rets P F.seal_Make [.int r, .int e, .int j, intLst t m, intLst u k, .agg (byteRow salt)] st (.tuple [.agg zeroCard, .int 340]) := by
  refine H.seal_Make.pure hmix rfl rfl ?_
  have hp1 := fun (h : placeOk r e j = true) c st => placedC_ok r e j c h st
  have hp2 := fun (h : placeOk r e j = false) c st => placedC_no r e j c h st
  have hmM := fun st => all_spec t m hml 1000 st
  have hkK := fun st => all_spec u k hkl 1073741788 st
  unfold mkOk at h
  generalize placeOk r e j = A at *
  generalize inAll m 1000 = B at *
  generalize inAll k 1073741788 = C at *
  cases A
  · have hp3 := hp2 rfl
    clear hp1 hp2
    repeat' (first 
     | (with_reducible refine Fresh.intro fun b hb => ?_) <;> (try simp -dsimp -implicitDefEqProofs [*] at hb)
     | (with_reducible refine Panics.xcall (hp3 _ _) ?_)
     | (with_reducible refine Defs.xdef (caught_pan _ _ 0 _ (by simp [*])) ?_)
     | (simp -dsimp -implicitDefEqProofs [H.seal_caught.enters, *]))
    repeat' (simp -dsimp -implicitDefEqProofs [epick, *])
  have hp3 := hp1 rfl
  clear hp1 hp2
  cases B
  · repeat' (first 
     | (with_reducible refine Fresh.intro fun b hb => ?_) <;> (try simp -dsimp -implicitDefEqProofs [*] at hb)
     | (with_reducible refine Rets.xcall (hp3 _ _) ?_)
     | (with_reducible refine Rets.xcall (hmM _) ?_)
     | (with_reducible refine Panics.xcall (need_no _) ?_)
     | (with_reducible refine Defs.xdef (caught_pan _ _ 0 _ (by simp [*])) ?_)
     | (simp -dsimp -implicitDefEqProofs [H.seal_caught.enters, *]))
    repeat' (simp -dsimp -implicitDefEqProofs [epick, *])
  cases C
  · repeat' (first 
     | (with_reducible refine Fresh.intro fun b hb => ?_) <;> (try simp -dsimp -implicitDefEqProofs [*] at hb)
     | (with_reducible refine Rets.xcall (hp3 _ _) ?_)
     | (with_reducible refine Rets.xcall (hmM _) ?_)
     | (with_reducible refine Rets.xcall (hkK _) ?_)
     | (with_reducible refine Panics.xcall (need_no _) ?_)
     | (with_reducible refine Defs.xdef (caught_pan _ _ 0 _ (by simp [*])) ?_)
     | (simp -dsimp -implicitDefEqProofs [H.seal_caught.enters, *]))
    repeat' (simp -dsimp -implicitDefEqProofs [epick, *])
  · have h' : ¬ m.length = k.length := by simpa using h
    clear h
    have h8 : decide ((m.length : Int) = (k.length : Int)) = false := by simp; omega
    repeat' (first 
     | (with_reducible refine Fresh.intro fun b hb => ?_) <;> (try simp -dsimp -implicitDefEqProofs [*] at hb)
     | (with_reducible refine Rets.xcall (hp3 _ _) ?_)
     | (with_reducible refine Rets.xcall (hmM _) ?_)
     | (with_reducible refine Rets.xcall (hkK _) ?_)
     | (with_reducible refine Panics.xcall (need_no _) ?_)
     | (with_reducible refine Defs.xdef (caught_pan _ _ 0 _ (by simp [*])) ?_)
     | (simp -dsimp -implicitDefEqProofs [H.seal_caught.enters, *]))
    repeat' (simp -dsimp -implicitDefEqProofs [epick, *])
end Go.Proofs.YtmgpkcpalpejcaaDoor
