/- Bare, Strip, Open of the program. -/
import Derived.Test.YtmgpkcpalpejcaaDoorS34Y
namespace Go.Proofs.YtmgpkcpalpejcaaDoor
open Go.Pv Go.Pv.Sha
set_option maxRecDepth 100000
set_option maxHeartbeats 4000000
theorem bv_inj {a b : BitVec 8} : (a.toNat : Int) = b.toNat ↔ a = b := by
  constructor
  · intro h
    exact BitVec.eq_of_toNat_eq (by omega)
  · rintro rfl
    rfl
theorem eqCells_bytes : ∀ (a b : List (BitVec 8)), a.length = b.length → eqCells (List.replicate a.length .int) (byteRow a) (byteRow b) = some (decide (a = b))
  | [], [], _ => rfl
  | x :: a, y :: b, h => by
    have ih := eqCells_bytes a b (by simpa using h)
    show (match eqLeaf .int (bv x) (bv y), eqCells (List.replicate a.length .int) (byteRow a) (byteRow b) with
      | some a, some b => some (a && b)
      | _, _ => none) = _
    rw [ih]
    have e : eqLeaf .int (bv x) (bv y) = some (decide (x = y)) := by
      by_cases hxy : x = y
      · simp [eqLeaf, hxy]
      · simp only [hxy, decide_false]
        simp [eqLeaf]
        exact fun h => hxy (by simpa [u8, bv_inj] using h)
    rw [e]
    simp only [List.cons.injEq, Bool.decide_and]
theorem eqCells32 (a b : List (BitVec 8)) (ha : a.length = 32) (hb : b.length = 32) : eqCells [.int, .int, .int, .int, .int, .int, .int, .int, .int, .int, .int, .int, .int, .int, .int, .int, .int, .int, .int, .int, .int, .int, .int, .int, .int, .int, .int, .int, .int, .int, .int, .int] (byteRow a) (byteRow b) = some (decide (a = b)) := by
  have h := eqCells_bytes a b (by omega)
  rw [ha] at h
  exact h
abbrev cardV (r e j : Int) (c : PV) (d : List (BitVec 8)) : PV := .agg (.int r :: .int e :: .int j :: c :: byteRow d)
theorem checkC (r e j : Int) (t : Bool) (l : List Int) (hl : l.length ≤ 100000) (d : List (BitVec 8)) (hd : d.length = 32) (st : Store) : Rets P F.seal_Check [cardV r e j (intLst t l) d] st (.int (if chk r e j l then 0 else 340)) := checkS_spec r e j t l hl d hd st
theorem refCheckC (r e j : Int) (t : Bool) (l : List Int) (hl : l.length ≤ 100000) (d : List (BitVec 8)) (st : Store) : Rets P F.podiumref34_Check [cardV r e j (intLst t l) d] st (.int (if chk r e j l then 0 else 340)) := refCheckS_spec r e j t l hl d st
def bareOk (r e j : Int) (c k : List Int) : Bool := chk r e j c && inAll k 1073741788 && decide (k.length = c.length)
def bareL (c k : List Int) : List Int := List.zipWith less c k
theorem bareL_len {c k : List Int} (h : k.length = c.length) : (bareL c k).length = c.length := by simp [bareL, h]
theorem inAll_len {l : List Int} {most : Int} (h : inAll l most = true) : 1 ≤ l.length ∧ l.length ≤ 64 := by
  unfold inAll at h
  simp only [Bool.and_eq_true, decide_eq_true_eq] at h
  exact h.1
theorem bare_ok (t u : Bool) (r e j : Int) (c k : List Int) (hc : c.length ≤ 100000) (hk : k.length ≤ 100000) (d : List (BitVec 8)) (hd : d.length = 32) (h : bareOk r e j c k = true) (st : Store) :
    Rets P F.seal_bare [cardV r e j (intLst t c) d, intLst u k] st (intLst false (bareL c k)) := by
  refine H.seal_bare.pure hmix rfl rfl ?_
  have hC := fun st => checkC r e j t c hc d hd st
  have hK := fun st => all_spec u k hk 1073741788 st
  simp only [bareOk, Bool.and_eq_true, decide_eq_true_eq] at h
  obtain ⟨⟨h1, h2⟩, h3⟩ := h
  have h4 : inAll c 1073741788 = true := by
    unfold chk at h1
    simp only [Bool.and_eq_true] at h1
    exact h1.2
  have hz : ∀ st, Rets P F.seal_zip__int_int_int [intLst t c, intLst u k, .func (.func F.seal_bare_1) [] []] st (intLst false (bareL c k)) := fun st =>
    zip_spec F.seal_bare_1 less t u c k (by have := inAll_len h4; omega) h3.symm (fun i hi st => by
      have b1 := inAll_bound h4 _ (List.getElem_mem hi)
      have b2 := inAll_bound h2 _ (List.getElem_mem (by rw [h3]; exact hi))
      exact bare1_spec _ _ b1.1 (by omega) b2.1 (by omega) st) st
  rw [h1, if_pos rfl] at hC
  rw [h2] at hK
  have hdl : (byteRow d).length = 32 := by simp [hd]
  have htk : List.take 32 (byteRow d) = byteRow d := List.take_of_length_le (by omega)
  clear h1 h2 h4
  repeat' (first 
   | (with_reducible refine Fresh.intro fun b hb => ?_) <;> (try simp -dsimp -implicitDefEqProofs [*] at hb)
   | (with_reducible refine Rets.xcall (hC _) ?_)
   | (with_reducible refine Rets.xcall (hK _) ?_)
   | (with_reducible refine Rets.xcall (need_ok _) ?_)
   | (with_reducible refine Rets.xcall (hz _) ?_)
   | (simp -dsimp -implicitDefEqProofs [*]))
theorem bare_no (t u : Bool) (r e j : Int) (c k : List Int) (hc : c.length ≤ 100000) (hk : k.length ≤ 100000) (d : List (BitVec 8)) (hd : d.length = 32) (h : bareOk r e j c k = false) (st : Store) :
    Panics P F.seal_bare [cardV r e j (intLst t c) d, intLst u k] st (.iface T.apiErrno (.int 340)) := by
  refine H.seal_bare.panics hmix rfl rfl ?_
  have hC := fun st => checkC r e j t c hc d hd st
  have hK := fun st => all_spec u k hk 1073741788 st
  unfold bareOk at h
  have hdl : (byteRow d).length = 32 := by simp [hd]
  have htk : List.take 32 (byteRow d) = byteRow d := List.take_of_length_le (by omega)
  generalize chk r e j c = A at *
  generalize inAll k 1073741788 = B at *
  cases A
  · repeat' (first 
     | (with_reducible refine Fresh.intro fun b hb => ?_) <;> (try simp -dsimp -implicitDefEqProofs [*] at hb)
     | (with_reducible refine Rets.xcall (hC _) ?_)
     | (with_reducible refine Panics.xcall (need_no _) ?_)
     | (simp -dsimp -implicitDefEqProofs [*]))
  cases B
  · repeat' (first 
     | (with_reducible refine Fresh.intro fun b hb => ?_) <;> (try simp -dsimp -implicitDefEqProofs [*] at hb)
     | (with_reducible refine Rets.xcall (hC _) ?_)
     | (with_reducible refine Rets.xcall (hK _) ?_)
     | (with_reducible refine Panics.xcall (need_no _) ?_)
     | (simp -dsimp -implicitDefEqProofs [*]))
  · have h' : ¬ k.length = c.length := by simpa using h
    clear h
    have h8 : decide ((k.length : Int) = (c.length : Int)) = false := by simp; omega
    repeat' (first 
     | (with_reducible refine Fresh.intro fun b hb => ?_) <;> (try simp -dsimp -implicitDefEqProofs [*] at hb)
     | (with_reducible refine Rets.xcall (hC _) ?_)
     | (with_reducible refine Rets.xcall (hK _) ?_)
     | (with_reducible refine Panics.xcall (need_no _) ?_)
     | (simp -dsimp -implicitDefEqProofs [*]))
theorem toNat_map {l : List Int} (h : ∀ n ∈ l, 0 ≤ n) : (l.map Int.toNat).map (fun n : Nat => (n : Int)) = l := by
  rw [List.map_map]
  conv => rhs; rw [← List.map_id l]
  exact List.map_congr_left fun n hn => Int.toNat_of_nonneg (h n hn)
structure Right (r e j : Int) (m k : List Int) : Prop where
  hp : placeOk r e j = true
  hm : inAll m 1000 = true
  hk : inAll k 1073741788 = true
theorem place_in {r e j : Int} (h : placeOk r e j = true) : (0 ≤ r ∧ r ≤ 7) ∧ (0 ≤ e ∧ e ≤ 4095) ∧ (0 ≤ j ∧ j ≤ 255) := by
  simpa [placeOk, wi, and_assoc] using h
theorem Right.fit {r e j : Int} {m k : List Int} (h : Right r e j m k) {salt : List (BitVec 8)} (hs : salt.length = 32) : Fit r.toNat e.toNat j.toNat (m.map Int.toNat) (k.map Int.toNat) (saltS salt) := by
  have h1 := place_in h.hp
  have hm := inAll_bound h.hm
  have hk := inAll_bound h.hk
  have lm := inAll_len h.hm
  have lk := inAll_len h.hk
  refine ⟨by unfold BIG; omega, by unfold BIG; omega, by unfold BIG; omega, ?_, ?_, by simp; omega, by simp; omega, by simp; omega, by simp; omega, by rw [saltS_size]; omega⟩
  · intro n hn
    obtain ⟨x, hx, rfl⟩ := List.mem_map.1 hn
    have := hm x hx
    unfold BIG; omega
  · intro n hn
    obtain ⟨x, hx, rfl⟩ := List.mem_map.1 hn
    have := hk x hx
    unfold BIG; omega
def comI (r e j : Int) (m k : List Int) (salt : List (BitVec 8)) : List (BitVec 8) := comB r.toNat e.toNat j.toNat (m.map Int.toNat) (k.map Int.toNat) (saltS salt)
def digI (r e j : Int) (m k : List Int) (salt : List (BitVec 8)) : List (BitVec 8) := tagged (strB cardTag) (comI r e j m k salt)
theorem digI_len (r e j : Int) (m k : List Int) (salt : List (BitVec 8)) : (digI r e j m k salt).length = 32 := rfl
theorem natLst_to (t : Bool) {l : List Int} (h : ∀ n ∈ l, 0 ≤ n) : natLst t (l.map Int.toNat) = intLst t l := by
  rw [← natLst_eq, toNat_map h]
theorem commitI (t u : Bool) {r e j : Int} {m k : List Int} (c : PV) (d salt : List (BitVec 8)) (hd : d.length = 32) (hs : salt.length = 32) (h : Right r e j m k) (st : Store) (h0 : sget st 0 = some (.arr T.t8uint32 Sha.start.row)) (h1 : sget st 1 = some numsO) :
    Rets P F.seal_commit [cardV r e j c d, intLst t m, intLst u k, .agg (byteRow salt)] st (.agg (byteRow (digI r e j m k salt))) := by
  have h9 := commit_spec t u c d salt hd hs (h.fit hs) st h0 h1
  have h2 := place_in h.hp
  rwa [natLst_to t fun n hn => (inAll_bound h.hm n hn).1, natLst_to u fun n hn => (inAll_bound h.hk n hn).1, sealedRow, Int.toNat_of_nonneg h2.1.1, Int.toNat_of_nonneg h2.2.1.1, Int.toNat_of_nonneg h2.2.2.1] at h9
def cipher (m k : List Int) : List Int := List.zipWith (fun x y => (x + y) % QI) m k
theorem makeI_ok (t u : Bool) {r e j : Int} {m k : List Int} (salt : List (BitVec 8)) (hs : salt.length = 32) (h : mkOk r e j m k = true) (st : Store) (h0 : sget st 0 = some (.arr T.t8uint32 Sha.start.row)) (h1 : sget st 1 = some numsO) :
    Rets P F.seal_Make [.int r, .int e, .int j, intLst t m, intLst u k, .agg (byteRow salt)] st (.tuple [cardV r e j (intLst false (cipher m k)) (digI r e j m k salt), .int 0]) := by
  simp only [mkOk, Bool.and_eq_true, decide_eq_true_eq] at h
  obtain ⟨⟨⟨a1, a2⟩, a3⟩, a4⟩ := h
  have hr : Right r e j m k := ⟨a1, a2, a3⟩
  have h2 := place_in a1
  have em := toNat_map fun n hn => (inAll_bound a2 n hn).1
  have ek := toNat_map fun n hn => (inAll_bound a3 n hn).1
  have h9 := make_ok t u r.toNat e.toNat j.toNat (m.map Int.toNat) (k.map Int.toNat) salt hs (by rw [Int.toNat_of_nonneg h2.1.1, Int.toNat_of_nonneg h2.2.1.1, Int.toNat_of_nonneg h2.2.2.1]; exact a1) (hr.fit hs) (by simpa using a4) (by rw [em]; exact a2) (by rw [ek]; exact a3) st h0 h1
  rwa [natLst_to t fun n hn => (inAll_bound a2 n hn).1, natLst_to u fun n hn => (inAll_bound a3 n hn).1, em, ek, sealedRow, Int.toNat_of_nonneg h2.1.1, Int.toNat_of_nonneg h2.2.1.1, Int.toNat_of_nonneg h2.2.2.1] at h9
theorem refTextI (t u : Bool) {r e j : Int} {m k : List Int} (salt : List (BitVec 8)) (hs : salt.length = 32) (h : Right r e j m k) (st : Store) : Rets P F.podiumref34_Text [.int r, .int e, .int j, intLst t m, intLst u k, .agg (byteRow salt)] st (byteLst false (comI r e j m k salt)) := by
  have h9 := refText_spec t u salt hs (h.fit hs) st
  have h2 := place_in h.hp
  rwa [natLst_to t fun n hn => (inAll_bound h.hm n hn).1, natLst_to u fun n hn => (inAll_bound h.hk n hn).1, Int.toNat_of_nonneg h2.1.1, Int.toNat_of_nonneg h2.2.1.1, Int.toNat_of_nonneg h2.2.2.1] at h9
def optL : Option (List Int) → PV
  | none => .nil
  | some l => intLst false l
def stripR (r e j : Int) (c k : List Int) : Option (List Int) := if bareOk r e j c k && inAll (bareL c k) 1000 then some (bareL c k) else none
def errO {α : Type} : Option α → Int
  | none => 340
  | some _ => 0
theorem bareL_le {c k : List Int} (hk : k.length ≤ 100000) : (bareL c k).length ≤ 100000 := by simp [bareL]; omega
theorem strip_spec (t u : Bool) (r e j : Int) (c k : List Int) (hc : c.length ≤ 100000) (hk : k.length ≤ 100000) (d : List (BitVec 8)) (hd : d.length = 32) (st : Store) :
    Rets P F.seal_Strip [cardV r e j (intLst t c) d, intLst u k] st (.tuple [optL (stripR r e j c k), .int (errO (stripR r e j c k))]) := by
  refine H.seal_Strip.pure hmix rfl rfl ?_
  have hB1 := fun (h : bareOk r e j c k = true) st => bare_ok t u r e j c k hc hk d hd h st
  have hB2 := fun (h : bareOk r e j c k = false) st => bare_no t u r e j c k hc hk d hd h st
  have hM := fun st => all_spec false (bareL c k) (bareL_le hk) 1000 st
  have hdl : (byteRow d).length = 32 := by simp [hd]
  have htk : List.take 32 (byteRow d) = byteRow d := List.take_of_length_le (by omega)
  generalize hR : PV.tuple [optL (stripR r e j c k), .int (errO (stripR r e j c k))] = R
  unfold stripR at hR
  generalize bareOk r e j c k = A at *
  generalize bareL c k = M at *
  generalize inAll M 1000 = B at *
  cases A
  · have hB := hB2 rfl
    clear hB1 hB2
    have hR' : R = .tuple [.nil, .int 340] := hR.symm
    clear hR
    subst hR'
    repeat' (first 
     | (with_reducible refine Fresh.intro fun b hb => ?_) <;> (try simp -dsimp -implicitDefEqProofs [*] at hb)
     | (with_reducible refine Panics.xcall (hB _) ?_)
     | (with_reducible refine Defs.xdef (caught_pan _ _ 0 _ (by simp [*])) ?_)
     | (simp -dsimp -implicitDefEqProofs [H.seal_caught.enters, *]))
    repeat' (simp -dsimp -implicitDefEqProofs [epick, *])
  have hB := hB1 rfl
  clear hB1 hB2
  cases B
  · have hR' : R = .tuple [.nil, .int 340] := hR.symm
    clear hR
    subst hR'
    repeat' (first 
     | (with_reducible refine Fresh.intro fun b hb => ?_) <;> (try simp -dsimp -implicitDefEqProofs [*] at hb)
     | (with_reducible refine Rets.xcall (hB _) ?_)
     | (with_reducible refine Rets.xcall (hM _) ?_)
     | (with_reducible refine Panics.xcall (need_no _) ?_)
     | (with_reducible refine Defs.xdef (caught_pan _ _ 0 _ (by simp [*])) ?_)
     | (simp -dsimp -implicitDefEqProofs [H.seal_caught.enters, *]))
    repeat' (simp -dsimp -implicitDefEqProofs [epick, *])
  · have hR' : R = .tuple [intLst false M, .int 0] := hR.symm
    clear hR
    subst hR'
    repeat' (first 
     | (with_reducible refine Fresh.intro fun b hb => ?_) <;> (try simp -dsimp -implicitDefEqProofs [*] at hb)
     | (with_reducible refine Rets.xcall (hB _) ?_)
     | (with_reducible refine Rets.xcall (hM _) ?_)
     | (with_reducible refine Rets.xcall (need_ok _) ?_)
     | (with_reducible refine Defs.xdef (caught_ret _ _) ?_)
     | (simp -dsimp -implicitDefEqProofs [H.seal_caught.enters, *]))
/-- A fresh block is neither of the two package variables. -/
def Snew (st : Store) (b : Nat) : Prop := snew st b
theorem snew_globs {st : Store} {o o' : PObj} (h0 : sget st 0 = some o) (h1 : sget st 1 = some o') (b : Nat) : snew st b = ((¬ 0 = b ∧ ¬ b = 0) ∧ (¬ 1 = b ∧ ¬ b = 1) ∧ Snew st b) := by
  refine propext ⟨fun h => ?_, fun h => h.2.2⟩
  have a := (snew_ne h h0).1
  have c := (snew_ne h h1).1
  exact ⟨⟨fun e => a e.symm, a⟩, ⟨fun e => c e.symm, c⟩, h⟩
def openR (r e j : Int) (c : List Int) (d : List (BitVec 8)) (k : List Int) (salt : List (BitVec 8)) : Option (List Int) := if bareOk r e j c k && inAll (bareL c k) 1000 && decide (digI r e j (bareL c k) k salt = d) then some (bareL c k) else none
theorem open_spec (t u : Bool) (r e j : Int) (c k : List Int) (hc : c.length ≤ 100000) (hk : k.length ≤ 100000) (d salt : List (BitVec 8)) (hd : d.length = 32) (hs : salt.length = 32) (st : Store) (h0 : sget st 0 = some (.arr T.t8uint32 Sha.start.row)) (h1 : sget st 1 = some numsO) :
    Rets P F.seal_Open [cardV r e j (intLst t c) d, intLst u k, .agg (byteRow salt)] st (.tuple [optL (openR r e j c d k salt), .bool (openR r e j c d k salt).isSome, .int (if bareOk r e j c k then 0 else 340)]) := by
  refine H.seal_Open.pure hmix rfl rfl ?_
  have hB1 := fun (h : bareOk r e j c k = true) st => bare_ok t u r e j c k hc hk d hd h st
  have hB2 := fun (h : bareOk r e j c k = false) st => bare_no t u r e j c k hc hk d hd h st
  have hM := fun st => all_spec false (bareL c k) (bareL_le hk) 1000 st
  have hdl : (byteRow d).length = 32 := by simp [hd]
  have htk : List.take 32 (byteRow d) = byteRow d := List.take_of_length_le (by omega)
  have hsl : (byteRow salt).length = 32 := by simp [hs]
  have hts : List.take 32 (byteRow salt) = byteRow salt := List.take_of_length_le (by omega)
  have hC := fun (h2 : bareOk r e j c k = true) (h3 : inAll (bareL c k) 1000 = true) => commitI false u (m := bareL c k) (intLst t c) d salt hd hs (by
    simp only [bareOk, chk, Bool.and_eq_true] at h2
    exact ⟨h2.1.1.1, h3, h2.1.2⟩)
  have hQ := eqCells32 (digI r e j (bareL c k) k salt) d rfl hd
  generalize hR : PV.tuple [optL (openR r e j c d k salt), .bool (openR r e j c d k salt).isSome, .int (if bareOk r e j c k then 0 else 340)] = R
  unfold openR at hR
  generalize digI r e j (bareL c k) k salt = D at *
  generalize bareOk r e j c k = A at *
  generalize bareL c k = M at *
  generalize inAll M 1000 = B at *
  cases A
  · have hB := hB2 rfl
    clear hB1 hB2 hC
    have hR' : R = .tuple [.nil, .bool false, .int 340] := hR.symm
    clear hR
    subst hR'
    repeat' (first 
     | (with_reducible refine Fresh.intro fun b hb => ?_) <;> (try simp -dsimp -implicitDefEqProofs [*] at hb)
     | (with_reducible refine Panics.xcall (hB _) ?_)
     | (with_reducible refine Defs.xdef (caught_pan _ _ 0 _ (by simp [*])) ?_)
     | (simp -dsimp -implicitDefEqProofs [H.seal_caught.enters, *]))
    repeat' (simp -dsimp -implicitDefEqProofs [epick, *])
  have hB := hB1 rfl
  clear hB1 hB2
  cases B
  · clear hC
    have hR' : R = .tuple [.nil, .bool false, .int 0] := hR.symm
    clear hR
    subst hR'
    repeat' (first 
     | (with_reducible refine Fresh.intro fun b hb => ?_) <;> (try simp -dsimp -implicitDefEqProofs [*] at hb)
     | (with_reducible refine Rets.xcall (hB _) ?_)
     | (with_reducible refine Rets.xcall (hM _) ?_)
     | (with_reducible refine Defs.xdef (caught_ret _ _) ?_)
     | (with_reducible refine DrawLate.intro [] ?_)
     | (simp -dsimp -implicitDefEqProofs [H.seal_caught.enters, *]))
  · have hC1 := hC rfl rfl
    clear hC
    simp only [Bool.true_and, if_true] at hR
    have hN := snew_globs h0 h1
    have hsub := sub_all hsl
    repeat' (first 
     | (with_reducible refine Fresh.intro fun b hb => ?_) <;> (try simp -dsimp -implicitDefEqProofs [*] at hb)
     | (with_reducible refine Rets.xcall (hB _) ?_)
     | (with_reducible refine Rets.xcall (hM _) ?_)
     | (with_reducible refine Rets.xcall (hC1 _ (by simp [*]) (by simp [*])) ?_)
     | (with_reducible refine Defs.xdef (caught_ret _ _) ?_)
     | (with_reducible refine DrawLate.intro [] ?_)
     | (with_reducible refine And.intro (fun h => ?_) (fun h => ?_)) <;> (try (exfalso; omega))
     | (simp -dsimp -implicitDefEqProofs [H.seal_caught.enters, *]))
    all_goals (rw [← hR]; simp [*, optL])
end Go.Proofs.YtmgpkcpalpejcaaDoor
