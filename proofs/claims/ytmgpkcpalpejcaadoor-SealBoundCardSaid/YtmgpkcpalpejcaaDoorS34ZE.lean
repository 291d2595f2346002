/- SealSpec, SealOpenSpec. -/
import Derived.Test.YtmgpkcpalpejcaaDoorS34ZD
namespace Go.Proofs.YtmgpkcpalpejcaaDoor
open Go.Pv Go.Pv.Sha
set_option maxRecDepth 100000
set_option maxHeartbeats 4000000
theorem nils_same (st : Store) : Rets P F.podiumref34_SameInts [.nil, .nil] st (.bool true) :=
  Rets.args (ps := [.nil, .nil]) (qs := [.list true [] 0, .list true [] 0]) (show PsLe [.nil, .nil] [.list true [] 0, .list true [] 0] from ⟨PLe.nil, PLe.nil, trivial⟩) (sameInts_spec true true [] [] (by decide) (by decide) st)
theorem opt_same (o : Option (List Int)) (h : ∀ l, o = some l → l.length ≤ 100000) (st : Store) : Rets P F.podiumref34_SameInts [optL o, optL o] st (.bool true) := by
  cases o with
  | none => exact nils_same st
  | some l =>
    have := sameInts_spec false false l l (h l rfl) (h l rfl) st
    rwa [decide_eq_true rfl] at this
theorem spec_law (r e j : Int) (t u v : Bool) (m k : List Int) (salt : List (BitVec 8)) (hs : salt.length = 32) (r' e' j' : Int) (c : List Int) (d : List (BitVec 8)) (hd : d.length = 32) (st : Store) (h0 : sget st 0 = some (.arr T.t8uint32 Sha.start.row)) (h1 : sget st 1 = some numsO) :
    Rets P F.podiumlaw34_SealSpec [.int r, .int e, .int j, intLst t m, intLst u k, .agg (byteRow salt), cardV r' e' j' (intLst v c) d] st (.bool true) := by
  refine H.podiumlaw34_SealSpec.pure hmix rfl rfl ?_
  have hN := snew_globs h0 h1
  have hsane := fun st h0 h1 => sane_spec st h0 h1
  have hsl : (byteRow salt).length = 32 := by simp [hs]
  have hts : List.take 32 (byteRow salt) = byteRow salt := List.take_of_length_le (by omega)
  have hsub := sub_all hsl
  have hdl : (byteRow d).length = 32 := by simp [hd]
  have htk : List.take 32 (byteRow d) = byteRow d := List.take_of_length_le (by omega)
  by_cases lm : 100 < m.length
  · have lm' : (100 : Int) < m.length := by omega
    repeat' (first 
     | (with_reducible refine Fresh.intro fun b hb => ?_) <;> (try simp -dsimp -implicitDefEqProofs [*] at hb)
     | (with_reducible refine Rets.xcall (hsane _ (by simp [*]) (by simp [*])) ?_)
     | (simp -dsimp -implicitDefEqProofs [*]))
  by_cases lk : 100 < k.length
  · have lm' : ¬ (100 : Int) < m.length := by omega
    have lk' : (100 : Int) < k.length := by omega
    repeat' (first 
     | (with_reducible refine Fresh.intro fun b hb => ?_) <;> (try simp -dsimp -implicitDefEqProofs [*] at hb)
     | (with_reducible refine Rets.xcall (hsane _ (by simp [*]) (by simp [*])) ?_)
     | (simp -dsimp -implicitDefEqProofs [*]))
  have lm' : ¬ (100 : Int) < m.length := by omega
  have lk' : ¬ (100 : Int) < k.length := by omega
  by_cases lc : 100 < c.length
  · have lc' : (100 : Int) < c.length := by omega
    repeat' (first 
     | (with_reducible refine Fresh.intro fun b hb => ?_) <;> (try simp -dsimp -implicitDefEqProofs [*] at hb)
     | (with_reducible refine Rets.xcall (hsane _ (by simp [*]) (by simp [*])) ?_)
     | (simp -dsimp -implicitDefEqProofs [*]))
  have lc' : ¬ (100 : Int) < c.length := by omega
  have hC := fun st => checkC r' e' j' v c (by omega) d hd st
  have hC2 := fun st => refCheckC r' e' j' v c (by omega) d st
  generalize (if chk r' e' j' c = true then (0 : Int) else 340) = E at *
  cases hok : mkOk r e j m k
  · have hM := fun st => make_no t u r e j m k (by omega) (by omega) salt hs hok st
    have hM2 := fun st => refMake_no t u r e j m k (by omega) (by omega) salt hok st
    have hS : ∀ st, Rets P F.podiumref34_Same [.agg zeroCard, .agg zeroCard] st (.bool true) := fun st => by
      have := same_spec 0 0 0 .nil z32 rfl 0 0 0 .nil z32 rfl [] [] (fun st => nils_same st) st
      exact this
    clear hok
    repeat' (first 
     | (with_reducible refine Fresh.intro fun b hb => ?_) <;> (try simp -dsimp -implicitDefEqProofs [*] at hb)
     | (with_reducible refine Rets.xcall (hsane _ (by simp [*]) (by simp [*])) ?_)
     | (with_reducible refine Rets.xcall (hM _) ?_)
     | (with_reducible refine Rets.xcall (hM2 _) ?_)
     | (with_reducible refine Rets.xcall (hS _) ?_)
     | (with_reducible refine Rets.xcall (hC _) ?_)
     | (with_reducible refine Rets.xcall (hC2 _) ?_)
     | (with_reducible refine DrawLate.intro [] ?_)
     | (simp -dsimp -implicitDefEqProofs [*]))
  · have hM := fun st h0 h1 => makeI_ok t u salt hs hok st h0 h1
    have hM2 := fun st => refMake_ok t u salt hs hok st
    have hlen : (cipher m k).length ≤ 100000 := by simp [cipher]; omega
    have hS : ∀ st, Rets P F.podiumref34_Same [cardV r e j (intLst false (cipher m k)) (digI r e j m k salt), cardV r e j (intLst false (cipher m k)) (digI r e j m k salt)] st (.bool true) := fun st => by
      have := same_spec r e j (intLst false (cipher m k)) (digI r e j m k salt) rfl r e j (intLst false (cipher m k)) (digI r e j m k salt) rfl (cipher m k) (cipher m k) (fun st => sameInts_spec false false _ _ hlen hlen st) st
      simpa using this
    have hDl : (byteRow (digI r e j m k salt)).length = 32 := rfl
    have hDt : List.take 32 (byteRow (digI r e j m k salt)) = byteRow (digI r e j m k salt) := List.take_of_length_le (by omega)
    have hall : ∀ a b c d (L : List PV), L.length = 32 → setCells (a :: b :: c :: d :: L) 4 (byteRow (digI r e j m k salt)) = a :: b :: c :: d :: byteRow (digI r e j m k salt) := fun a b c d L h => by
      have h9 := setCells_append_right (byteRow (digI r e j m k salt)) [a, b, c, d] L 0
      rw [setCells_all _ _ (hDl.trans h.symm)] at h9
      exact h9
    generalize digI r e j m k salt = D at *
    generalize cipher m k = ci at *
    clear hok
    repeat' (first 
     | (with_reducible refine Fresh.intro fun b hb => ?_) <;> (try simp -dsimp -implicitDefEqProofs [*] at hb)
     | (with_reducible refine Rets.xcall (hsane _ (by simp [*]) (by simp [*])) ?_)
     | (with_reducible refine Rets.xcall (hM _ (by simp [*]) (by simp [*])) ?_)
     | (with_reducible refine Rets.xcall (hM2 _) ?_)
     | (with_reducible refine Rets.xcall (hS _) ?_)
     | (with_reducible refine Rets.xcall (hC _) ?_)
     | (with_reducible refine Rets.xcall (hC2 _) ?_)
     | (with_reducible refine DrawLate.intro [] ?_)
     | (simp -dsimp -implicitDefEqProofs [*]))
theorem openR_len {r e j : Int} {c : List Int} {d : List (BitVec 8)} {k : List Int} {salt : List (BitVec 8)} (hk : k.length ≤ 100000) : ∀ l, openR r e j c d k salt = some l → l.length ≤ 100000 := by
  intro l h
  unfold openR at h
  split at h
  · cases h; exact bareL_le hk
  · cases h
theorem stripR_len {r e j : Int} {c : List Int} {k : List Int} (hk : k.length ≤ 100000) : ∀ l, stripR r e j c k = some l → l.length ≤ 100000 := by
  intro l h
  unfold stripR at h
  split at h
  · cases h; exact bareL_le hk
  · cases h
theorem openSpec_law (r e j : Int) (t u : Bool) (c k : List Int) (d salt : List (BitVec 8)) (hd : d.length = 32) (hs : salt.length = 32) (st : Store) (h0 : sget st 0 = some (.arr T.t8uint32 Sha.start.row)) (h1 : sget st 1 = some numsO) :
    Rets P F.podiumlaw34_SealOpenSpec [cardV r e j (intLst t c) d, intLst u k, .agg (byteRow salt)] st (.bool true) := by
  refine H.podiumlaw34_SealOpenSpec.pure hmix rfl rfl ?_
  have hN := snew_globs h0 h1
  have hsane := fun st h0 h1 => sane_spec st h0 h1
  have hsl : (byteRow salt).length = 32 := by simp [hs]
  have hts : List.take 32 (byteRow salt) = byteRow salt := List.take_of_length_le (by omega)
  have hsub := sub_all hsl
  have hdl : (byteRow d).length = 32 := by simp [hd]
  have htk : List.take 32 (byteRow d) = byteRow d := List.take_of_length_le (by omega)
  by_cases lk : 100 < k.length
  · have lk' : (100 : Int) < k.length := by omega
    repeat' (first 
     | (with_reducible refine Fresh.intro fun b hb => ?_) <;> (try simp -dsimp -implicitDefEqProofs [*] at hb)
     | (with_reducible refine Rets.xcall (hsane _ (by simp [*]) (by simp [*])) ?_)
     | (simp -dsimp -implicitDefEqProofs [*]))
  have lk' : ¬ (100 : Int) < k.length := by omega
  by_cases lc : 100 < c.length
  · have lc' : (100 : Int) < c.length := by omega
    repeat' (first 
     | (with_reducible refine Fresh.intro fun b hb => ?_) <;> (try simp -dsimp -implicitDefEqProofs [*] at hb)
     | (with_reducible refine Rets.xcall (hsane _ (by simp [*]) (by simp [*])) ?_)
     | (simp -dsimp -implicitDefEqProofs [*]))
  have lc' : ¬ (100 : Int) < c.length := by omega
  have hO := fun st h0 h1 => open_spec t u r e j c k (by omega) (by omega) d salt hd hs st h0 h1
  have hO2 := fun st => refOpen_spec t u r e j c k (by omega) (by omega) d salt hd hs st
  have hS := fun st => strip_spec t u r e j c k (by omega) (by omega) d hd st
  have hS2 := fun st => refStrip_spec t u r e j c k (by omega) (by omega) d hd st
  have hE := fun st => opt_same (openR r e j c d k salt) (openR_len (by omega)) st
  have hE2 := fun st => opt_same (stripR r e j c k) (stripR_len (by omega)) st
  generalize optL (openR r e j c d k salt) = A1 at *
  generalize (openR r e j c d k salt).isSome = A2 at *
  generalize (if bareOk r e j c k = true then (0 : Int) else 340) = A3 at *
  generalize optL (stripR r e j c k) = A4 at *
  generalize errO (stripR r e j c k) = A5 at *
  repeat' (first 
   | (with_reducible refine Fresh.intro fun b hb => ?_) <;> (try simp -dsimp -implicitDefEqProofs [*] at hb)
   | (with_reducible refine Rets.xcall (hsane _ (by simp [*]) (by simp [*])) ?_)
   | (with_reducible refine Rets.xcall (hO _ (by simp [*]) (by simp [*])) ?_)
   | (with_reducible refine Rets.xcall (hO2 _) ?_)
   | (with_reducible refine Rets.xcall (hS _) ?_)
   | (with_reducible refine Rets.xcall (hS2 _) ?_)
   | (with_reducible refine Rets.xcall (hE _) ?_)
   | (with_reducible refine Rets.xcall (hE2 _) ?_)
   | (simp -dsimp -implicitDefEqProofs [*]))
end Go.Proofs.YtmgpkcpalpejcaaDoor
