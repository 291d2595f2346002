/- The examples. -/
import Derived.Test.YtmgpkcpalpejcaaDoorS34Z
namespace Go.Proofs.YtmgpkcpalpejcaaDoor
open Go.Pv Go.Pv.Sha
set_option maxRecDepth 100000
set_option maxHeartbeats 4000000
abbrev salt9 : List (BitVec 8) := 9#8 :: List.replicate 31 0#8
theorem PLe.cell {a b c : PV} {l : List PV} : PLe (.agg (a :: b :: c :: .nil :: l)) (.agg (a :: b :: c :: .list true [] 0 :: l)) := fun I v h => by
  simp only [vrep] at h ⊢
  obtain ⟨vs, h1, h2⟩ := h
  refine ⟨vs, h1, ?_⟩
  match vs, h2 with
  | _ :: _ :: _ :: _ :: _, h2 =>
    simp only [vcells] at h2 ⊢
    exact ⟨h2.1, h2.2.1, h2.2.2.1, ⟨PLe.nil I _ h2.2.2.2.1.1, h2.2.2.2.1.2⟩, h2.2.2.2.2⟩
theorem sane_spec (st : Store) (h0 : sget st 0 = some (.arr T.t8uint32 Sha.start.row)) (h1 : sget st 1 = some numsO) : Rets P F.podiumlaw34_sane [] st (.bool true) := by
  refine H.podiumlaw34_sane.pure hmix rfl rfl ?_
  have hN := snew_globs h0 h1
  obtain ⟨D, hD⟩ : ∃ D, D = digI 1 2 3 [7, 0] [1073741788, 5] salt9 := ⟨_, rfl⟩
  have hDl : (byteRow D).length = 32 := by rw [hD]; rfl
  have hDt : List.take 32 (byteRow D) = byteRow D := List.take_of_length_le (by omega)
  have m1 : ∀ st, sget st 0 = some (.arr T.t8uint32 Sha.start.row) → sget st 1 = some numsO → Rets P F.seal_Make [.int 1, .int 2, .int 3, .list true [.int 7, .int 0] 2, .list true [.int 1073741788, .int 5] 2, .agg [.val (.int .u8 9), .val (.int .u8 0), .val (.int .u8 0), .val (.int .u8 0), .val (.int .u8 0), .val (.int .u8 0), .val (.int .u8 0), .val (.int .u8 0), .val (.int .u8 0), .val (.int .u8 0), .val (.int .u8 0), .val (.int .u8 0), .val (.int .u8 0), .val (.int .u8 0), .val (.int .u8 0), .val (.int .u8 0), .val (.int .u8 0), .val (.int .u8 0), .val (.int .u8 0), .val (.int .u8 0), .val (.int .u8 0), .val (.int .u8 0), .val (.int .u8 0), .val (.int .u8 0), .val (.int .u8 0), .val (.int .u8 0), .val (.int .u8 0), .val (.int .u8 0), .val (.int .u8 0), .val (.int .u8 0), .val (.int .u8 0), .val (.int .u8 0)]] st (.tuple [.agg (.int 1 :: .int 2 :: .int 3 :: .list false [.int 6, .int 5] 2 :: byteRow D), .int 0]) := fun st h0 h1 => by
    rw [hD]
    exact makeI_ok (r := 1) (e := 2) (j := 3) (m := [7, 0]) (k := [1073741788, 5]) true true salt9 rfl (by decide) st h0 h1
  have m2 : ∀ st, Rets P F.seal_Make [.int 8, .int 0, .int 0, .list true [.int 1] 1, .list true [.int 1] 1, .agg [.val (.int .u8 0), .val (.int .u8 0), .val (.int .u8 0), .val (.int .u8 0), .val (.int .u8 0), .val (.int .u8 0), .val (.int .u8 0), .val (.int .u8 0), .val (.int .u8 0), .val (.int .u8 0), .val (.int .u8 0), .val (.int .u8 0), .val (.int .u8 0), .val (.int .u8 0), .val (.int .u8 0), .val (.int .u8 0), .val (.int .u8 0), .val (.int .u8 0), .val (.int .u8 0), .val (.int .u8 0), .val (.int .u8 0), .val (.int .u8 0), .val (.int .u8 0), .val (.int .u8 0), .val (.int .u8 0), .val (.int .u8 0), .val (.int .u8 0), .val (.int .u8 0), .val (.int .u8 0), .val (.int .u8 0), .val (.int .u8 0), .val (.int .u8 0)]] st (.tuple [.agg zeroCard, .int 340]) := fun st => make_no true true 8 0 0 [1] [1] (by decide) (by decide) z32 rfl (by decide) st
  have m3 : ∀ st, Rets P F.seal_Make [.int 0, .int 0, .int 0, .nil, .nil, .agg [.val (.int .u8 0), .val (.int .u8 0), .val (.int .u8 0), .val (.int .u8 0), .val (.int .u8 0), .val (.int .u8 0), .val (.int .u8 0), .val (.int .u8 0), .val (.int .u8 0), .val (.int .u8 0), .val (.int .u8 0), .val (.int .u8 0), .val (.int .u8 0), .val (.int .u8 0), .val (.int .u8 0), .val (.int .u8 0), .val (.int .u8 0), .val (.int .u8 0), .val (.int .u8 0), .val (.int .u8 0), .val (.int .u8 0), .val (.int .u8 0), .val (.int .u8 0), .val (.int .u8 0), .val (.int .u8 0), .val (.int .u8 0), .val (.int .u8 0), .val (.int .u8 0), .val (.int .u8 0), .val (.int .u8 0), .val (.int .u8 0), .val (.int .u8 0)]] st (.tuple [.agg zeroCard, .int 340]) := fun st => Rets.args (qs := [.int 0, .int 0, .int 0, .list true [] 0, .list true [] 0, .agg (byteRow z32)]) (show PsLe [.int 0, .int 0, .int 0, .nil, .nil, .agg (byteRow z32)] [.int 0, .int 0, .int 0, .list true [] 0, .list true [] 0, .agg (byteRow z32)] from ⟨.refl _, .refl _, .refl _, .nil, .nil, .refl _, trivial⟩) (make_no true true 0 0 0 [] [] (by decide) (by decide) z32 rfl (by decide) st)
  have m4 : ∀ st, Rets P F.seal_Make [.int 0, .int 0, .int 0, .list true [.int 1001] 1, .list true [.int 0] 1, .agg [.val (.int .u8 0), .val (.int .u8 0), .val (.int .u8 0), .val (.int .u8 0), .val (.int .u8 0), .val (.int .u8 0), .val (.int .u8 0), .val (.int .u8 0), .val (.int .u8 0), .val (.int .u8 0), .val (.int .u8 0), .val (.int .u8 0), .val (.int .u8 0), .val (.int .u8 0), .val (.int .u8 0), .val (.int .u8 0), .val (.int .u8 0), .val (.int .u8 0), .val (.int .u8 0), .val (.int .u8 0), .val (.int .u8 0), .val (.int .u8 0), .val (.int .u8 0), .val (.int .u8 0), .val (.int .u8 0), .val (.int .u8 0), .val (.int .u8 0), .val (.int .u8 0), .val (.int .u8 0), .val (.int .u8 0), .val (.int .u8 0), .val (.int .u8 0)]] st (.tuple [.agg zeroCard, .int 340]) := fun st => make_no true true 0 0 0 [1001] [0] (by decide) (by decide) z32 rfl (by decide) st
  have o1 : ∀ st, sget st 0 = some (.arr T.t8uint32 Sha.start.row) → sget st 1 = some numsO → Rets P F.seal_Open [.agg (.int 1 :: .int 2 :: .int 3 :: .list false [.int 6, .int 5] 2 :: byteRow D), .list true [.int 1073741788, .int 5] 2, .agg [.val (.int .u8 9), .val (.int .u8 0), .val (.int .u8 0), .val (.int .u8 0), .val (.int .u8 0), .val (.int .u8 0), .val (.int .u8 0), .val (.int .u8 0), .val (.int .u8 0), .val (.int .u8 0), .val (.int .u8 0), .val (.int .u8 0), .val (.int .u8 0), .val (.int .u8 0), .val (.int .u8 0), .val (.int .u8 0), .val (.int .u8 0), .val (.int .u8 0), .val (.int .u8 0), .val (.int .u8 0), .val (.int .u8 0), .val (.int .u8 0), .val (.int .u8 0), .val (.int .u8 0), .val (.int .u8 0), .val (.int .u8 0), .val (.int .u8 0), .val (.int .u8 0), .val (.int .u8 0), .val (.int .u8 0), .val (.int .u8 0), .val (.int .u8 0)]] st (.tuple [.list false [.int 7, .int 0] 2, .bool true, .int 0]) := fun st h0 h1 => by
    have h := open_spec false true 1 2 3 [6, 5] [1073741788, 5] (by decide) (by decide) D salt9 (by rw [hD]; rfl) rfl st h0 h1
    have e : openR 1 2 3 [6, 5] D [1073741788, 5] salt9 = some [7, 0] := by
      have e1 : bareL [6, 5] [1073741788, 5] = [7, 0] := rfl
      unfold openR
      rw [e1, ← hD, if_pos (by simp; decide)]
    rw [e] at h
    exact h
  have o2 : ∀ st, sget st 0 = some (.arr T.t8uint32 Sha.start.row) → sget st 1 = some numsO → Rets P F.seal_Open [.agg (.int 1 :: .int 2 :: .int 3 :: .list false [.int 6, .int 5] 2 :: byteRow D), .list true [.int 1073741788, .int 6] 2, .agg [.val (.int .u8 9), .val (.int .u8 0), .val (.int .u8 0), .val (.int .u8 0), .val (.int .u8 0), .val (.int .u8 0), .val (.int .u8 0), .val (.int .u8 0), .val (.int .u8 0), .val (.int .u8 0), .val (.int .u8 0), .val (.int .u8 0), .val (.int .u8 0), .val (.int .u8 0), .val (.int .u8 0), .val (.int .u8 0), .val (.int .u8 0), .val (.int .u8 0), .val (.int .u8 0), .val (.int .u8 0), .val (.int .u8 0), .val (.int .u8 0), .val (.int .u8 0), .val (.int .u8 0), .val (.int .u8 0), .val (.int .u8 0), .val (.int .u8 0), .val (.int .u8 0), .val (.int .u8 0), .val (.int .u8 0), .val (.int .u8 0), .val (.int .u8 0)]] st (.tuple [.nil, .bool false, .int 0]) := fun st h0 h1 => by
    have h := open_spec false true 1 2 3 [6, 5] [1073741788, 6] (by decide) (by decide) D salt9 (by rw [hD]; rfl) rfl st h0 h1
    have e : openR 1 2 3 [6, 5] D [1073741788, 6] salt9 = none := by
      unfold openR
      rw [show inAll (bareL [6, 5] [1073741788, 6]) 1000 = false from rfl, Bool.and_false, Bool.false_and]
      rfl
    rw [e] at h
    exact h
  have s1 : ∀ st, Rets P F.seal_Strip [.agg (.int 1 :: .int 2 :: .int 3 :: .list false [.int 6, .int 5] 2 :: byteRow D), .list true [.int 1073741788, .int 3] 2] st (.tuple [.list false [.int 7, .int 2] 2, .int 0]) := fun st => strip_spec false true 1 2 3 [6, 5] [1073741788, 3] (by decide) (by decide) D (by rw [hD]; rfl) st
  have s2 : ∀ st, Rets P F.seal_Strip [.agg [.int 0, .int 0, .int 0, .list true [.int 5] 1, .val (.int .u8 0), .val (.int .u8 0), .val (.int .u8 0), .val (.int .u8 0), .val (.int .u8 0), .val (.int .u8 0), .val (.int .u8 0), .val (.int .u8 0), .val (.int .u8 0), .val (.int .u8 0), .val (.int .u8 0), .val (.int .u8 0), .val (.int .u8 0), .val (.int .u8 0), .val (.int .u8 0), .val (.int .u8 0), .val (.int .u8 0), .val (.int .u8 0), .val (.int .u8 0), .val (.int .u8 0), .val (.int .u8 0), .val (.int .u8 0), .val (.int .u8 0), .val (.int .u8 0), .val (.int .u8 0), .val (.int .u8 0), .val (.int .u8 0), .val (.int .u8 0), .val (.int .u8 0), .val (.int .u8 0), .val (.int .u8 0), .val (.int .u8 0)], .list true [.int 6] 1] st (.tuple [.nil, .int 340]) := fun st => strip_spec true true 0 0 0 [5] [6] (by decide) (by decide) z32 rfl st
  have q1 : ∀ st, Rets P F.podiumref34_SameInts [.list false [.int 6, .int 5] 2, .list true [.int 6, .int 5] 2] st (.bool true) := fun st => sameInts_spec false true [6, 5] [6, 5] (by decide) (by decide) st
  have q2 : ∀ st, Rets P F.podiumref34_SameInts [.list false [.int 7, .int 0] 2, .list true [.int 7, .int 0] 2] st (.bool true) := fun st => sameInts_spec false true [7, 0] [7, 0] (by decide) (by decide) st
  have q3 : ∀ st, Rets P F.podiumref34_SameInts [.list false [.int 7, .int 2] 2, .list true [.int 7, .int 2] 2] st (.bool true) := fun st => sameInts_spec false true [7, 2] [7, 2] (by decide) (by decide) st
  have c1 : ∀ st, Rets P F.seal_Check [.agg zeroCard] st (.int 340) := fun st => Rets.args (ps := [.agg (.int 0 :: .int 0 :: .int 0 :: .nil :: byteRow z32)]) (qs := [.agg (.int 0 :: .int 0 :: .int 0 :: .list true [] 0 :: byteRow z32)]) (show PsLe [.agg (.int 0 :: .int 0 :: .int 0 :: .nil :: byteRow z32)] [.agg (.int 0 :: .int 0 :: .int 0 :: .list true [] 0 :: byteRow z32)] from ⟨PLe.cell, trivial⟩) (checkC 0 0 0 true [] (by decide) z32 rfl st)
  have c2 : ∀ st, Rets P F.seal_Check [.agg (.int 1 :: .int 2 :: .int 3 :: .list false [.int 6, .int 5] 2 :: byteRow D)] st (.int 0) := fun st => checkC 1 2 3 false [6, 5] (by decide) D (by rw [hD]; rfl) st
  clear hD
  have hall : ∀ a b c d (L : List PV), L.length = 32 → setCells (a :: b :: c :: d :: L) 4 (byteRow D) = a :: b :: c :: d :: byteRow D := fun a b c d L h => by
    have h9 := setCells_append_right (byteRow D) [a, b, c, d] L 0
    rw [setCells_all _ _ (hDl.trans h.symm)] at h9
    exact h9
  repeat' (first 
   | (with_reducible refine Fresh.intro fun b hb => ?_) <;> (try simp -dsimp -implicitDefEqProofs [*] at hb)
   | (with_reducible refine Rets.xcall (m1 _ (by simp [*]) (by simp [*])) ?_)
   | (with_reducible refine Rets.xcall (m2 _) ?_)
   | (with_reducible refine Rets.xcall (m3 _) ?_)
   | (with_reducible refine Rets.xcall (m4 _) ?_)
   | (with_reducible refine Rets.xcall (o1 _ (by simp [*]) (by simp [*])) ?_)
   | (with_reducible refine Rets.xcall (o2 _ (by simp [*]) (by simp [*])) ?_)
   | (with_reducible refine Rets.xcall (s1 _) ?_)
   | (with_reducible refine Rets.xcall (s2 _) ?_)
   | (with_reducible refine Rets.xcall (q1 _) ?_)
   | (with_reducible refine Rets.xcall (q2 _) ?_)
   | (with_reducible refine Rets.xcall (q3 _) ?_)
   | (with_reducible refine Rets.xcall (c1 _) ?_)
   | (with_reducible refine Rets.xcall (c2 _) ?_)
   | (with_reducible refine Lit.imm ?_)
   | (simp -dsimp -implicitDefEqProofs [*]))
end Go.Proofs.YtmgpkcpalpejcaaDoor
