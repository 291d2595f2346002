/- Commitments by the program. -/
import Derived.Test.YtmgpkcpalpejcaaDoorS34Q
namespace Go.Proofs.YtmgpkcpalpejcaaDoor
open Go.Pv Go.Pv.Sha
set_option maxRecDepth 100000
set_option maxHeartbeats 4000000
theorem valuesInts (l : List Nat) (h0 : 0 < l.length) (h1 : l.length ≤ 100) (st : Store) : Rets P F.seal_values [.list false (anyInts l) l.length] st (.agg (intsW l).row) := by
  have h := values_spec false (l.map fun n : Nat => ((.iface T.int (.int (n : Int)) : PV), intW n)) (by simpa using h0) (by simpa using h1) (fun x hx => by
    obtain ⟨n, _, rfl⟩ := List.mem_map.1 hx
    exact .int n) st
  simp only [List.map_map, List.length_map] at h
  exact h
abbrev natLst (t : Bool) (l : List Nat) : PV := .list t (l.map fun n : Nat => .int (n : Int)) l.length
theorem valuesParts (t u : Bool) {r e j : Nat} {m k : List Nat} {x : ByteArray} (h : Fit r e j m k x) (st : Store) :
    Rets P F.seal_values [.list true [.iface T.int (.int (r : Int)), .iface T.int (.int (e : Int)), .iface T.int (.int (j : Int)), .iface T.Lint (natLst t m), .iface T.Lint (natLst u k), .iface T.string (.str x)] 6] st (.agg (listW (parts r e j m k x)).row) := by
  have h := values_spec true [(.iface T.int (.int (r : Int)), intW r), (.iface T.int (.int (e : Int)), intW e), (.iface T.int (.int (j : Int)), intW j), (.iface T.Lint (natLst t m), intsW m), (.iface T.Lint (natLst u k), intsW k), (.iface T.string (.str x), textW x)] (by simp) (by simp) (fun y hy => by
    simp only [List.mem_cons, List.not_mem_nil, or_false] at hy
    rcases hy with rfl | rfl | rfl | rfl | rfl | rfl
    · exact .int r
    · exact .int e
    · exact .int j
    · exact .ints t m h.m0 h.m1 (valuesInts m h.m0 h.m1)
    · exact .ints u k h.k0 h.k1 (valuesInts k h.k0 h.k1)
    · exact .text x) st
  exact h
abbrev sealedRow (r e j : Nat) (c : PV) (d : List (BitVec 8)) : List PV := .int (r : Int) :: .int (e : Int) :: .int (j : Int) :: c :: byteRow d
def cardTag : ByteArray := ⟨#[99, 97, 114, 100]⟩
/-- A row of bytes as a string. -/
def saltS (l : List (BitVec 8)) : ByteArray := ⟨(l.map fun b => UInt8.ofNat b.toNat).toArray⟩
theorem bytesOf_row (l : List (BitVec 8)) : bytesOf? (byteRow l) = some (l.map fun b => UInt8.ofNat b.toNat) := by
  induction l with
  | nil => rfl
  | cons b l ih =>
    have e : byteRow (b :: l) = bv b :: byteRow l := rfl
    have hb := u8_lt b
    have h2 : (u8 b).toNat = b.toNat := by unfold u8; simp
    rw [e, bytesOf?, if_pos hb, ih, h2]
    rfl
theorem strB_salt (l : List (BitVec 8)) : strB (saltS l) = l := by
  show ((l.map fun b => UInt8.ofNat b.toNat).toArray.toList).map (·.toBitVec) = l
  rw [List.toList_toArray, List.map_map]
  conv => rhs; rw [← List.map_id l]
  refine List.map_congr_left fun b _ => ?_
  show (UInt8.ofNat b.toNat).toBitVec = b
  apply BitVec.eq_of_toNat_eq
  simp
theorem saltS_size (l : List (BitVec 8)) : (saltS l).size = l.length := by rw [← strB_len, strB_salt]
theorem commit_spec (t u : Bool) {r e j : Nat} {m k : List Nat} (c : PV) (d salt : List (BitVec 8)) (hd : d.length = 32) (hs : salt.length = 32) (h : Fit r e j m k (saltS salt)) (st : Store) (h0 : sget st 0 = some (.arr T.t8uint32 Sha.start.row)) (h1 : sget st 1 = some numsO) :
    Rets P F.seal_commit [.agg (sealedRow r e j c d), natLst t m, natLst u k, .agg (byteRow salt)] st (.agg (byteRow (tagged (strB cardTag) (comB r e j m k (saltS salt))))) := by
  refine H.seal_commit.pure hmix rfl rfl ?_
  have hsl : (byteRow salt).length = 32 := by simp [hs]
  have hsub := sub_all hsl
  have htk : List.take 32 (byteRow salt) = byteRow salt := List.take_of_length_le (by omega)
  have hbo := bytesOf_row salt
  have hsS : (⟨(salt.map fun b => UInt8.ofNat b.toNat).toArray⟩ : ByteArray) = saltS salt := rfl
  have hv := fun st => valuesParts t u h st
  have he := fun st => encodeW h st
  have hlen : (comB r e j m k (saltS salt)).length ≤ 900000 := by
    have hB := flatB_len (parts r e j m k (saltS salt)) (parts_all (Q := fun v => v.B.length ≤ 2000) (by have := intW_len r h.hr; omega) (by have := intW_len e h.he; omega) (by have := intW_len j h.hj; omega) (intsW_len m h.m1 h.hm) (intsW_len k h.k1 h.hk) ((textW_ok 0 (by omega) _ h.hx .nil).B))
    have h2 := numE_len10 (n := (parts r e j m k (saltS salt)).length) (by simp [parts])
    show (3#8 :: (numE (parts r e j m k (saltS salt)).length ++ (parts r e j m k (saltS salt)).flatMap Wv.B)).length ≤ 900000
    rw [List.length_cons, List.length_append]
    simp only [parts, List.length_cons, List.length_nil] at hB h2 ⊢
    omega
  have ht : ∀ st, sget st 0 = some (.arr T.t8uint32 Sha.start.row) → sget st 1 = some numsO → Rets P F.digest_Tagged [.val (.string ⟨#[99, 97, 114, 100]⟩), byteLst false (comB r e j m k (saltS salt))] st (.agg (byteRow (tagged (strB cardTag) (comB r e j m k (saltS salt))))) := fun st h0 h1 => tagged_spec cardTag (by decide) false _ hlen st h0 h1
  have hD : (byteRow (tagged (strB cardTag) (comB r e j m k (saltS salt)))).length = 32 := rfl
  have hall : ∀ L : List PV, L.length = 32 → setCells L 0 (byteRow (tagged (strB cardTag) (comB r e j m k (saltS salt)))) = byteRow (tagged (strB cardTag) (comB r e j m k (saltS salt))) := fun L h => setCells_all _ _ h.symm
  have hsub2 := sub_all hD
  generalize (listW (parts r e j m k (saltS salt))).row = RW at *
  generalize tagged (strB cardTag) (comB r e j m k (saltS salt)) = D at *
  generalize comB r e j m k (saltS salt) = B at *
  generalize saltS salt = x at *
  generalize (salt.map fun b => UInt8.ofNat b.toNat) = bs at hbo hsS
  repeat' (first 
   | (with_reducible refine Fresh.intro fun b hb => ?_) <;> (try simp -dsimp -implicitDefEqProofs [*] at hb)
   | (simp -dsimp -implicitDefEqProofs [*]))
  revert b
  intro y hy
  revert b
  intro z hz hy
  revert b
  intro p hp hz hy
  have y0 := (snew_ne hy.2.2 h0).1
  have y1 := (snew_ne hy.2.2 h1).1
  have z0 := (snew_ne hz.2 h0).1
  have z1 := (snew_ne hz.2 h1).1
  have p0 := (snew_ne hp h0).1
  have p1 := (snew_ne hp h1).1
  have ht' := fun R R2 R3 => ht ((y, .arr T.apiDigest R) :: (z, .arr T.apiDigest R2) :: (p, .arr T.apiSealed R3) :: st) (by simp [y0, z0, p0, h0]) (by simp [y1, z1, p1, h1])
  clear ht
  refine DrawLate.intro [] ?_
  repeat' (first 
   | (with_reducible refine Rets.xcall (hv _) ?_)
   | (with_reducible refine Rets.xcall (he _) ?_)
   | (simp -dsimp -implicitDefEqProofs [*]))
  repeat' (first 
   | (with_reducible refine Rets.xcall (ht' _ _ _) ?_)
   | (simp -dsimp -implicitDefEqProofs [*]))
end Go.Proofs.YtmgpkcpalpejcaaDoor
