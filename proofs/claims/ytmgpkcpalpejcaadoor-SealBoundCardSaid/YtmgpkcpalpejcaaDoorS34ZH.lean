/- SealBound. -/
import Derived.Test.YtmgpkcpalpejcaaDoorS34ZG
import Derived.Test.YtmgpkcpalpejcaaDoorS34ZB
namespace Go.Proofs.YtmgpkcpalpejcaaDoor
open Go.Pv Go.Pv.Sha
set_option maxRecDepth 100000
set_option maxHeartbeats 4000000
theorem openR_some {r e j : Int} {c k : List Int} {d salt : List (BitVec 8)} {m : List Int} (h : openR r e j c d k salt = some m) : Right r e j m k ∧ bareOk r e j c k = true ∧ digI r e j m k salt = d ∧ stripR r e j c k = some m ∧ m.length ≤ 64 := by
  unfold openR at h
  split at h
  · rename_i hc
    cases h
    simp only [Bool.and_eq_true, decide_eq_true_eq] at hc
    obtain ⟨⟨h1, h2⟩, h3⟩ := hc
    have h4 := h1
    simp only [bareOk, chk, Bool.and_eq_true] at h4
    exact ⟨⟨h4.1.1.1, h2, h4.1.2⟩, h1, h3, by simp [stripR, h1, h2], (inAll_len h2).2⟩
  · cases h
theorem bound_law (r e j : Int) (t u v : Bool) (c k o : List Int) (d salt second : List (BitVec 8)) (hd : d.length = 32) (hs : salt.length = 32) (h2 : second.length = 32) (x y z : Int) (st : Store) (h0 : sget st 0 = some (.arr T.t8uint32 Sha.start.row)) (h1 : sget st 1 = some numsO) :
    Rets P F.podiumlaw34_SealBound [cardV r e j (intLst t c) d, intLst u k, intLst v o, .agg (byteRow salt), .agg (byteRow second), .val (.int .u8 x), .val (.int .u8 y), .val (.int .u8 z)] st (.bool true) := by
  refine H.podiumlaw34_SealBound.pure hmix rfl rfl ?_
  have hN := snew_globs h0 h1
  have hsane := fun st h0 h1 => sane_spec st h0 h1
  have hsl : (byteRow salt).length = 32 := by simp [hs]
  have hts : List.take 32 (byteRow salt) = byteRow salt := List.take_of_length_le (by omega)
  have hsub := sub_all hsl
  have h2l : (byteRow second).length = 32 := by simp [h2]
  have h2s : List.take 32 (byteRow second) = byteRow second := List.take_of_length_le (by omega)
  have h2sub := sub_all h2l
  have hdl : (byteRow d).length = 32 := by simp [hd]
  have htk : List.take 32 (byteRow d) = byteRow d := List.take_of_length_le (by omega)
  by_cases lk : 100 < k.length
  · have lk' : (100 : Int) < k.length := by omega
    repeat' (first 
     | (with_reducible refine Fresh.intro fun b hb => ?_) <;> (try simp -dsimp -implicitDefEqProofs [*] at hb)
     | (with_reducible refine Rets.xcall (hsane _ (by simp [*]) (by simp [*])) ?_)
     | (simp -dsimp -implicitDefEqProofs [*]))
  have lk' : ¬ (100 : Int) < k.length := by omega
  by_cases lo : 100 < o.length
  · have lo' : (100 : Int) < o.length := by omega
    repeat' (first 
     | (with_reducible refine Fresh.intro fun b hb => ?_) <;> (try simp -dsimp -implicitDefEqProofs [*] at hb)
     | (with_reducible refine Rets.xcall (hsane _ (by simp [*]) (by simp [*])) ?_)
     | (simp -dsimp -implicitDefEqProofs [*]))
  have lo' : ¬ (100 : Int) < o.length := by omega
  by_cases lc : 100 < c.length
  · have lc' : (100 : Int) < c.length := by omega
    repeat' (first 
     | (with_reducible refine Fresh.intro fun b hb => ?_) <;> (try simp -dsimp -implicitDefEqProofs [*] at hb)
     | (with_reducible refine Rets.xcall (hsane _ (by simp [*]) (by simp [*])) ?_)
     | (simp -dsimp -implicitDefEqProofs [*]))
  have lc' : ¬ (100 : Int) < c.length := by omega
  have hall : ∀ x y z w (L : List PV), L.length = 32 → setCells (x :: y :: z :: w :: L) 4 (byteRow d) = x :: y :: z :: w :: byteRow d := fun x y z w L h => by
    have h9 := setCells_append_right (byteRow d) [x, y, z, w] L 0
    rw [setCells_all _ _ (hdl.trans h.symm)] at h9
    exact h9
  repeat' (first 
   | (with_reducible refine Fresh.intro fun b hb => ?_) <;> (try simp -dsimp -implicitDefEqProofs [*] at hb)
   | (with_reducible refine Rets.xcall (hsane _ (by simp [*]) (by simp [*])) ?_)
   | (simp -dsimp -implicitDefEqProofs [*]))
  revert b
  intro w hw
  refine DrawLate.intro [w] ?_
  repeat' (simp -dsimp -implicitDefEqProofs [*])
  generalize IntKind.i64.wrap (((r % 2 ^ IntKind.i64.bits).toNat ^^^ (IntKind.i64.wrap (IntKind.u8.wrap ((((x % 2 ^ IntKind.u8.bits).toNat &&& 7 % 2 ^ IntKind.u8.bits) : Nat) : Int)) % 2 ^ IntKind.i64.bits).toNat : Nat) : Int) = r'
  generalize IntKind.i64.wrap (((e % 2 ^ IntKind.i64.bits).toNat ^^^ (IntKind.i64.wrap y % 2 ^ IntKind.i64.bits).toNat : Nat) : Int) = e'
  generalize IntKind.i64.wrap (((j % 2 ^ IntKind.i64.bits).toNat ^^^ (IntKind.i64.wrap z % 2 ^ IntKind.i64.bits).toNat : Nat) : Int) = j'
  have hO := fun st h0 h1 => open_spec t u r e j c k (by omega) (by omega) d salt hd hs st h0 h1
  have hO2 := fun st h0 h1 => open_spec t v r' e' j' c o (by omega) (by omega) d second hd h2 st h0 h1
  have hS := fun st => strip_spec t u r e j c k (by omega) (by omega) d hd st
  have z1 : ∀ n : Nat, ¬ (n : Int) + 1 = 0 := fun n => by omega
  cases hA : openR r e j c d k salt with
  | none =>
    rw [hA] at hO
    simp only [optL, Option.isSome] at hO
    generalize openR r' e' j' c d o second = B at *
    generalize (if bareOk r e j c k = true then (0 : Int) else 340) = E1 at *
    generalize (if bareOk r' e' j' c o = true then (0 : Int) else 340) = E2 at *
    clear hS
    repeat' (first 
     | (with_reducible refine Rets.xcall (hO _ (by simp [*]) (by simp [*])) ?_)
     | (with_reducible refine Rets.xcall (hO2 _ (by simp [*]) (by simp [*])) ?_)
     | (simp -dsimp -implicitDefEqProofs [*]))
  | some a =>
    obtain ⟨q1, q2, q3, q4, q5⟩ := openR_some hA
    rw [hA, q2] at hO
    rw [q4] at hS
    simp only [optL, errO, Option.isSome, if_true] at hO hS
    have hE : ∀ st, Rets P F.podiumref34_SameInts [intLst false a, intLst false a] st (.bool true) := fun st => by
      have := sameInts_spec false false a a (by omega) (by omega) st
      rwa [decide_eq_true rfl] at this
    cases hB : openR r' e' j' c d o second with
    | none =>
      rw [hB] at hO2
      simp only [optL, Option.isSome] at hO2
      generalize (if bareOk r' e' j' c o = true then (0 : Int) else 340) = E2 at *
      repeat' (first 
       | (with_reducible refine Rets.xcall (hO _ (by simp [*]) (by simp [*])) ?_)
       | (with_reducible refine Rets.xcall (hO2 _ (by simp [*]) (by simp [*])) ?_)
       | (with_reducible refine Rets.xcall (hS _) ?_)
       | (with_reducible refine Rets.xcall (hE _) ?_)
       | (simp -dsimp -implicitDefEqProofs [*]))
    | some b' =>
      obtain ⟨p1, p2, p3, p4, p5⟩ := openR_some hB
      rw [hB, p2] at hO2
      simp only [optL, Option.isSome, if_true] at hO2
      have hT := fun st => textI false u (intLst t c) d salt hd hs q1 st
      have hT2 := fun st => textI false v (intLst t c) d second hd h2 p1 st
      have hx := bytesOf_row (comI r e j a k salt)
      have hy := bytesOf_row (comI r' e' j' b' o second)
      have hQ1 := eqCells32 salt second hs h2
      have hQ2 := eqCells32 d d hd hd
      rw [decide_eq_true rfl] at hQ2
      by_cases hXY : comI r e j a k salt = comI r' e' j' b' o second
      · obtain ⟨rfl, rfl, rfl⟩ := comI_inj q1 p1 hXY
        rw [← hXY] at hT2
        rw [decide_eq_true rfl] at hQ1
        have hE2 : ∀ st, Rets P F.podiumref34_SameInts [intLst u k, intLst v k] st (.bool true) := fun st => by
          have := sameInts_spec u v k k (by omega) (by omega) st
          rwa [decide_eq_true rfl] at this
        clear hA hB q1 q2 q3 q4 p1 p2 p3 p4 hy hXY
        generalize comI r e j a k salt = X at *
        repeat' (first 
         | (with_reducible refine Rets.xcall (hO _ (by simp [*]) (by simp [*])) ?_)
         | (with_reducible refine Rets.xcall (hO2 _ (by simp [*]) (by simp [*])) ?_)
         | (with_reducible refine Rets.xcall (hS _) ?_)
         | (with_reducible refine Rets.xcall (hE _) ?_)
         | (with_reducible refine Rets.xcall (hE2 _) ?_)
         | (with_reducible refine Rets.xcall (hT _) ?_)
         | (with_reducible refine Rets.xcall (hT2 _) ?_)
         | (with_reducible refine DrawLate.intro [] ?_)
         | (simp -dsimp -implicitDefEqProofs [*]))
      · have hne : ¬ ((⟨((comI r e j a k salt).map fun b => UInt8.ofNat b.toNat).toArray⟩ : ByteArray) = ⟨((comI r' e' j' b' o second).map fun b => UInt8.ofNat b.toNat).toArray⟩) := fun h => hXY (by
          have h5 : saltS (comI r e j a k salt) = saltS (comI r' e' j' b' o second) := h
          rw [← strB_salt (comI r e j a k salt), h5, strB_salt])
        have hG : ∀ st, sget st 0 = some (.arr T.t8uint32 Sha.start.row) → sget st 1 = some numsO → Rets P F.digest_Tagged [.val (.string ⟨#[99, 97, 114, 100]⟩), byteLst false (comI r e j a k salt)] st (.agg (byteRow d)) := fun st h0 h1 => by
          have h9 := tagged_spec cardTag (by decide) false (comI r e j a k salt) (comI_len q1 hs) st h0 h1
          rw [← q3]
          exact h9
        have hG2 : ∀ st, sget st 0 = some (.arr T.t8uint32 Sha.start.row) → sget st 1 = some numsO → Rets P F.digest_Tagged [.val (.string ⟨#[99, 97, 114, 100]⟩), byteLst false (comI r' e' j' b' o second)] st (.agg (byteRow d)) := fun st h0 h1 => by
          have h9 := tagged_spec cardTag (by decide) false (comI r' e' j' b' o second) (comI_len p1 h2) st h0 h1
          rw [← p3]
          exact h9
        clear hA hB q1 q2 q3 q4 p1 p2 p3 p4
        generalize comI r e j a k salt = X at *
        generalize comI r' e' j' b' o second = Y at *
        generalize (X.map fun b => UInt8.ofNat b.toNat) = XS at *
        generalize (Y.map fun b => UInt8.ofNat b.toNat) = YS at *
        repeat' (first 
         | (with_reducible refine Rets.xcall (hO _ (by simp [*]) (by simp [*])) ?_)
         | (with_reducible refine Rets.xcall (hO2 _ (by simp [*]) (by simp [*])) ?_)
         | (with_reducible refine Rets.xcall (hS _) ?_)
         | (with_reducible refine Rets.xcall (hE _) ?_)
         | (with_reducible refine Rets.xcall (hT _) ?_)
         | (with_reducible refine Rets.xcall (hT2 _) ?_)
         | (with_reducible refine Rets.xcall (hG _ (by simp [*]) (by simp [*])) ?_)
         | (with_reducible refine Rets.xcall (hG2 _ (by simp [*]) (by simp [*])) ?_)
         | (with_reducible refine DrawLate.intro [] ?_)
         | (simp -dsimp -implicitDefEqProofs [*]))
end Go.Proofs.YtmgpkcpalpejcaaDoor
