/- The chapter's examples. -/
import Derived.Test.YtnooplpbpfiapaaGreatDoorG36BF
import Derived.Test.YtnooplpbpfiapaaGreatDoorLBx
import Derived.Test.YtnooplpbpfiapaaGreatDoorG36BR
import Derived.Test.YtnooplpbpfiapaaGreatDoorG36AD
import Derived.Test.YtnooplpbpfiapaaGreatDoorG36CD
namespace Go.Proofs.YtnooplpbpfiapaaGreatDoor
open Go.Pv
set_option maxRecDepth 100000
set_option maxHeartbeats 16000000
theorem z5r (k t : Int) : PsLe (.int k :: .int t :: (q5v ++ ([.int 0, .int 0, .int 0, .int 0] ++ (.int 0 :: .nil :: zz)))) (y3i k t).enc := by
 unfold y3i Act.enc
 refine ⟨.refl _, .refl _, PsLe.append ?_ (PsLe.append (PsLe.refl _) ?_)⟩
 ·exact ⟨.refl _, .refl _, .refl _, .nil1, PsLe.refl _⟩
 ·exact ⟨.refl _, .nil1, PsLe.refl _⟩
theorem k1q (A B C X : List PV) (h : X.length = B.length) : q4a (A ++ (B ++ C)) A.length X = A ++ (X ++ C) := by
 have := q4q X A (B ++ C) 0
 rw [Nat.add_zero] at this
 rw [this, q50 _ _ _ _ (by omega), q5e _ _ h]
theorem j42 (x : Card) : q4a (.int 2 :: .int 0 :: (q5v ++ ([.int 0, .int 0, .int 0, .int 0] ++ (.int 0 :: .nil :: zz)))) 2 x.enc = .int 2 :: .int 0 :: (x.enc ++ ([.int 0, .int 0, .int 0, .int 0] ++ (.int 0 :: .nil :: zz))) :=
 k1q [.int 2, .int 0] q5v ([.int 0, .int 0, .int 0, .int 0] ++ (.int 0 :: .nil :: zz)) x.enc (by simp)
theorem j2f (x : Card) : PsLe (q4a (.int 2 :: .int 0 :: (q5v ++ ([.int 0, .int 0, .int 0, .int 0] ++ (.int 0 :: .nil :: zz)))) 2 x.enc) (⟨2, 0, x, default, default⟩ : Act).enc := by
 rw [j42]
 unfold Act.enc
 refine ⟨.refl _, .refl _, PsLe.append (PsLe.refl _) (PsLe.append (PsLe.refl _) ?_)⟩
 exact ⟨.refl _, .nil1, PsLe.refl _⟩
theorem j82 : PsLe (.int 4 :: .int 0 :: (q5v ++ ([.int 0, .int 0, .int 0, .int 0] ++ (.int 3 :: .list true [.int 1000] 1 :: .val (.int .u8 1) :: zz.tail)))) actN.enc := by
 unfold actN Act.enc
 refine ⟨.refl _, .refl _, PsLe.append ?_ (PsLe.append (PsLe.refl _) ?_)⟩
 ·exact ⟨.refl _, .refl _, .refl _, .nil1, PsLe.refl _⟩
 ·exact ⟨.refl _, .loose, PsLe.refl _⟩
theorem z5s {s x : Ses} {a : Act} (hL : s.Len) (hc : a.card.c.length ≤ 100000) (hn : a.shown.k.length ≤ 100000) (hl : s.sealed.length ≤ 1000 ∧ s.keys.length ≤ 1000 ∧ s.shown.length ≤ 1000) (h : doR s a = .inl x) (st : q37) (h0 : q4n st 0 = some (.arr T.t8uint32 Sha.start.row)) (h1 : q4n st 1 = some q6d) {L : List PV} (hle : PsLe L a.enc) : Rets P F.q03 [s.pv, .agg L] st (.tuple [x.pv, .int 0]) := by
 have := z62 s hL a hc hn hl st ⟨h0, h1⟩
 obtain ⟨e1, e2⟩ := y3h h
 rw [e1, e2] at this
 exact Rets.args (qs := [s.pv, a.pv]) ⟨.refl _, .aggs hle, trivial⟩ this
theorem y3l {s : Ses} {a : Act} {E : Int} (hL : s.Len) (hc : a.card.c.length ≤ 100000) (hn : a.shown.k.length ≤ 100000) (hl : s.sealed.length ≤ 1000 ∧ s.keys.length ≤ 1000 ∧ s.shown.length ≤ 1000) (h : doR s a = .inr E) (st : q37) (h0 : q4n st 0 = some (.arr T.t8uint32 Sha.start.row)) (h1 : q4n st 1 = some q6d) {L : List PV} (hle : PsLe L a.enc) : Rets P F.q03 [s.pv, .agg L] st (.tuple [zeroSes.pv, .int E]) := by
 have := z62 s hL a hc hn hl st ⟨h0, h1⟩
 have e1 : doE s a = E := by unfold doE; rw [h]
 have e2 : doS s a = zeroSes := by unfold doS; rw [h]
 rw [e1, e2] at this
 exact Rets.args (qs := [s.pv, a.pv]) ⟨.refl _, .aggs hle, trivial⟩ this
theorem z5t (st : q37) (hG : GL st) : Rets P F.q23 [] st (.bool true) := by
 have hN := q46 hG.h0 hG.h1
 have h0 := hG.h0
 have h1 := hG.h1
 have L2 : ses2.Len := y3k rfl rfl rfl rfl (.inl rfl) (.inl rfl)
 have L2L : ses2L.Len := y3k rfl rfl rfl rfl (.inl rfl) (.inl rfl)
 have L9 : ses9.Len := y3k rfl rfl rfl rfl (.inr rfl) (.inl rfl)
 have L9L : ses9L.Len := y3k rfl rfl rfl rfl (.inr rfl) (.inl rfl)
 have LN : sesN.Len := y3k rfl rfl rfl rfl (.inr rfl) (.inr rfl)
 have c1 : ∀ st, q4n st 0 = some (.arr T.t8uint32 Sha.start.row) → q4n st 1 = some q6d → Rets P F.q2w [.int 0, .int 0, .int 1, .nil, .int 1, .int 5] st (.tuple [zeroSes.pv, .int 1]) := fun st h0 h1 => by
  have := k7w 0 0 1 [] 1 5 (by simp) (by omega) (by omega) st ⟨h0, h1⟩
  have e : q5f (z1m 0 0 1 [] 1 5) = false := by decide +kernel
  rw [e] at this
  exact Rets.args (qs := [.int 0, .int 0, .int 1, q4b false [], .int 1, .int 5]) ⟨.refl _, .refl _, .refl _, .nil0, .refl _, .refl _, trivial⟩ this
 have c2 := fun st h0 h1 => z81 st ⟨h0, h1⟩
 have c3 : ∀ st, q4n st 0 = some (.arr T.t8uint32 Sha.start.row) → q4n st 1 = some q6d → Rets P F.q2b [ses2.pv] st (.tuple [.bool false, .int 0]) := fun st h0 h1 => by
  have := k41 ses2 L2 st ⟨h0, h1⟩
  have e : q6g ses2 = false := by decide +kernel
  rw [q78, e, if_pos rfl] at this
  exact this
 have c4 := fun st h0 h1 => y3l L2 (by decide) (by decide) (by decide) j40 st h0 h1 (z5r 3 0)
 have c5 := fun st h0 h1 => z5s L2 (by decide) (by decide) (by decide) j81 st h0 h1 (z5r 1 5)
 have c6 := fun st h0 h1 => k23 ses2L L2L (by decide) st ⟨h0, h1⟩
 rw [j2d, show q5f ses2L = true by decide +kernel, if_pos rfl] at c6
 have c7 := fun st h0 h1 => z1w st ⟨h0, h1⟩
 have c8 := fun st h0 h1 => z5s L2 (by decide) (by decide) (by decide) j2a st h0 h1 (j2f card9)
 have c9 := fun st h0 h1 => z5s L9 (by decide) (by decide) (by decide) j2b st h0 h1 (z5r 1 6)
 have c10 := fun st h0 h1 => z5s L9L (by decide) (by decide) (by decide) j2c st h0 h1 j82
 have c11 := fun st h0 h1 => k23 sesN LN (by decide) st ⟨h0, h1⟩
 rw [j2e, (q5s _).2 k96, if_pos rfl] at c11
 have c12 : ∀ st, q4n st 0 = some (.arr T.t8uint32 Sha.start.row) → q4n st 1 = some q6d → Rets P F.q1w [.agg [.int 0, .int 0, .int 0, .nil, .int 0, .int 0, .int 0, .nil, .nil, .nil]] st (.int 360) := fun st h0 h1 => by
  have := q89 zeroSes z5p st ⟨h0, h1⟩
  rw [show q5f zeroSes = false by decide +kernel] at this
  exact Rets.args (qs := [zeroSes.pv]) ⟨q7i, trivial⟩ this
 have c13 : ∀ st, q4n st 0 = some (.arr T.t8uint32 Sha.start.row) → q4n st 1 = some q6d → Rets P F.q1w [ses2.pv] st (.int 0) := fun st h0 h1 => by
  have := q89 ses2 L2 st ⟨h0, h1⟩
  rw [q78, if_pos rfl] at this
  exact this
 have c14 : ∀ st, Rets P F.q0g [Opd.lst false [⟨3, []⟩, ⟨3, []⟩], .list true [.int 3, .nil, .int 3, .nil] 2] st (.bool true) := fun st =>
  Rets.args (qs := [Opd.lst false [⟨3, []⟩, ⟨3, []⟩], Opd.lst true [⟨3, []⟩, ⟨3, []⟩]]) ⟨.refl _, .lists ⟨.refl _, .nil1, .refl _, .nil1, trivial⟩, trivial⟩ (q7q false true _ (by simp) (by simp) st)
 have c15 : ∀ st, Rets P F.q0g [Opd.lst false [⟨1, [9]⟩, ⟨3, []⟩], .list true [.int 1, .list true [.int 9] 1, .int 3, .nil] 2] st (.bool true) := fun st =>
  Rets.args (qs := [Opd.lst false [⟨1, [9]⟩, ⟨3, []⟩], Opd.lst true [⟨1, [9]⟩, ⟨3, []⟩]]) ⟨.refl _, .lists ⟨.refl _, .loose, .refl _, .nil1, trivial⟩, trivial⟩ (q7q false true _ (by simp) (by simp) st)
 simp only [List.cons_append, List.nil_append, List.tail_cons] at c4 c5 c8 c9 c10
 generalize Opd.lst false [⟨3, []⟩, ⟨3, []⟩] = O1 at *
 generalize Opd.lst false [⟨1, [9]⟩, ⟨3, []⟩] = O2 at *
 clear hG L2 L2L L9 L9L LN
 refine H.q23.view q4m rfl rfl ?_
 repeat' (first 
  | (with_reducible refine Fresh.intro fun b hb => ?_) <;> (try simp -dsimp -implicitDefEqProofs [*] at hb)
  | (with_reducible refine Rets.xcall (c1 _ (by simp [*]) (by simp [*])) ?_)
  | (with_reducible refine Rets.xcall (c2 _ (by simp [*]) (by simp [*])) ?_)
  | (with_reducible refine Rets.xcall (c3 _ (by simp [*]) (by simp [*])) ?_)
  | (with_reducible refine Rets.xcall (c4 _ (by simp [*]) (by simp [*])) ?_)
  | (with_reducible refine Rets.xcall (c5 _ (by simp [*]) (by simp [*])) ?_)
  | (with_reducible refine Rets.xcall (c6 _ (by simp [*]) (by simp [*])) ?_)
  | (with_reducible refine Rets.xcall (c7 _ (by simp [*]) (by simp [*])) ?_)
  | (with_reducible refine Rets.xcall (c8 _ (by simp [*]) (by simp [*])) ?_)
  | (with_reducible refine Rets.xcall (c9 _ (by simp [*]) (by simp [*])) ?_)
  | (with_reducible refine Rets.xcall (c10 _ (by simp [*]) (by simp [*])) ?_)
  | (with_reducible refine Rets.xcall (c11 _ (by simp [*]) (by simp [*])) ?_)
  | (with_reducible refine Rets.xcall (c12 _ (by simp [*]) (by simp [*])) ?_)
  | (with_reducible refine Rets.xcall (c13 _ (by simp [*]) (by simp [*])) ?_)
  | (with_reducible refine Rets.xcall (c14 _) ?_)
  | (with_reducible refine Rets.xcall (c15 _) ?_)
  | (with_reducible refine Lit.imm ?_)
  | (simp -dsimp -implicitDefEqProofs [*]))
 exact RetView.drop (st' := st) q4p ⟨rfl, rfl⟩
open Go.Pv
set_option maxRecDepth 100000
set_option maxHeartbeats 16000000
structure Wide (s : Ses) : Prop where
 c : -9223372036854775808 ≤ s.crits ∧ s.crits < 9223372036854775808
 n : -9223372036854775808 ≤ s.need ∧ s.need < 9223372036854775808
open Go.Pv Go.Pv.Ip
set_option maxRecDepth 100000
set_option maxHeartbeats 16000000
end Go.Proofs.YtnooplpbpfiapaaGreatDoor
