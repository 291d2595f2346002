/- What was sealed is opened by its keys: plain. -/
import Derived.Test.YtnooplpbpfiapaaGreatDoorG36CA
import Derived.Test.YtnooplpbpfiapaaGreatDoorG36AG
import Derived.Test.YtnooplpbpfiapaaGreatDoorLBx
import Derived.Test.YtnooplpbpfiapaaGreatDoorG36BR
import Derived.Test.YtnooplpbpfiapaaGreatDoorG36BF
import Derived.Test.YtnooplpbpfiapaaGreatDoorG36X
namespace Go.Proofs.YtnooplpbpfiapaaGreatDoor
open Go.Pv Go.Pv.Sha
set_option maxRecDepth 100000
theorem j37 {x y : Int} (hx : 0 ≤ x) (hx2 : x ≤ 1000) (hy : 0 ≤ y) (hy2 : y ≤ 1073741788) : z5k ((x + y) % QI) y = x := by
 unfold z5k QI
 split <;> omega
theorem j6w {l : List Int} {most : Int} (h1 : 1 ≤ l.length) (h2 : l.length ≤ 64) (h3 : ∀ x ∈ l, 0 ≤ x ∧ x ≤ most) : q7i l most = true := by
 unfold q7i
 simp only [Bool.and_eq_true, decide_eq_true_eq, List.all_eq_true]
 exact ⟨⟨h1, h2⟩, fun x hx => by unfold wi; have := h3 x hx; simp [this.1, this.2]⟩
structure BackF (r e j : Int) (m k : List Int) (salt : List (BitVec 8)) : Prop where
 make : y68 r e j m k = true
 ope : k46 r e j (k10 m k) (j4v r e j m k salt) k salt = some m
 strip : k1c r e j (k10 m k) k = some m
 chk : chk r e j (k10 m k) = true
theorem j06 {r e j : Int} {m k : List Int} {salt : List (BitVec 8)} (hp : q70 r e j = true) (h1 : q7i m 1000 = true) (h2 : q7i k 1073741788 = true) (h3 : m.length = k.length) : BackF r e j m k salt := by
 have hb : q7m (k10 m k) k = m := by
  refine List.ext_getElem (by simp [q7m, k10, h3]) fun i hi hi2 => ?_
  have hik : i < k.length := by omega
  have b1 := q6c h1 _ (List.getElem_mem hi2)
  have b2 := q6c h2 _ (List.getElem_mem hik)
  simp only [q7m, k10, List.getElem_zipWith]
  exact j37 b1.1 b1.2 b2.1 b2.2
 have l1 := k3r h1
 have hl : (k10 m k).length = m.length := by simp [k10, h3]
 have hc : q7i (k10 m k) 1073741788 = true := by
  refine j6w (by omega) (by omega) fun n hn => ?_
  obtain ⟨i, hi, rfl⟩ := List.mem_iff_getElem.1 hn
  simp only [k10, List.getElem_zipWith]
  unfold QI
  omega
 have hk : Go.Proofs.YtnooplpbpfiapaaGreatDoor.chk r e j (k10 m k) = true := by simp [Go.Proofs.YtnooplpbpfiapaaGreatDoor.chk, hp, hc]
 have hbo : q6k r e j (k10 m k) k = true := by simp [q6k, hk, h2, hl, h3]
 refine ⟨by simp [y68, hp, h1, h2, h3], ?_, ?_, hk⟩
 ·unfold k46
  rw [hb, hbo, h1]
  simp
 ·unfold k1c
  rw [hb, hbo, h1]
  simp
open Go.Pv
set_option maxRecDepth 100000
def y5h (k t : Int) : Act := ⟨k, t, default, default, default⟩
def ses2L : Ses := { ses2 with time := 5 }
def ses9 : Ses := { ses2 with sealed := [card9] }
def ses9L : Ses := { ses9 with time := 6 }
def shn9 : Shn := ⟨3, [1000], z71⟩
def sesN : Ses := { ses9L with shown := [shn9] }
theorem j6x : doR ses2 (y5h 3 0) = .inr 360 := by
 unfold doR
 rw [if_pos q9q]
 rfl
theorem y01 : doR ses2 (y5h 1 5) = .inl ses2L := Did.to q9q (.dPass rfl (by decide +kernel))
theorem j07 : q8f ses2 card9 = true := by decide +kernel
def actS : Act := ⟨2, 0, card9, default, default⟩
theorem j38 : doR ses2 actS = .inl ses9 := by
 refine Did.to q9q (.dSeal rfl ?_)
 unfold k2v
 rw [if_neg (by decide +kernel)]
 have : q8f ses2 actS.card = true := j07
 rw [if_pos this]
 rfl
theorem z2l : RightP ses9 := (z87 j38).2.right ((k0h _).1 q9q)
theorem j39 : doR ses9 (y5h 1 6) = .inl ses9L := Did.to ((k0h _).2 z2l) (.dPass rfl (by decide +kernel))
theorem z0l : RightP ses9L := (z87 j39).2.right z2l
theorem y5i : q94 card9 shn9 = some [9] := (j06 (r := 0) (e := 0) (j := 3) (m := [9]) (k := [1000]) (salt := z71.1) (by decide +kernel) (by decide +kernel) (by decide +kernel) rfl).ope
theorem z88 {s : Ses} (h : s.sealed = [card9]) : q8p s 3 = some card9 := by
 unfold q8p
 rw [h]
 rfl
theorem j6y {s : Ses} (h : s.sealed = [card9]) : q8p s 7 = none := by
 unfold q8p
 rw [h]
 rfl
def actN : Act := ⟨4, 0, default, default, shn9⟩
theorem j4a : doR ses9L actN = .inl sesN := by
 refine Did.to ((k0h _).2 z0l) (.dShow rfl ?_)
 unfold k2w
 rw [if_pos (by decide +kernel), if_pos]
 ·rfl
 ·show q74 ses9L shn9 = true
  unfold q74
  have : q8p ses9L shn9.j = some card9 := z88 rfl
  rw [this]
  show (q94 card9 shn9).isSome = true
  rw [y5i]
  rfl
theorem z2m : RightP sesN := (z87 j4a).2.right z0l
theorem j4b : z5x ses2L = [⟨3, []⟩, ⟨3, []⟩] := by decide +kernel
theorem j4c : z5x sesN = [⟨1, [9]⟩, ⟨3, []⟩] := by
 unfold z5x
 rw [if_pos ((k0h _).2 z2m)]
 show [k0a sesN 3, k0a sesN 7] = _
 have ho : q78 sesN = true := by decide +kernel
 have h1 := j6v (s := sesN) (j := 3) (x := card9) (y := shn9) ho (z88 rfl) rfl
 rw [y5i] at h1
 rw [h1, j05 ho (j6y rfl)]
 rfl
theorem y5j {s : Ses} (hj : s.judges = [3, 7]) (hc : s.crits = 1) (hn : s.need = 2) (hk : s.keys = []) (h1 : s.sealed = [] ∨ s.sealed = [card9]) (h2 : s.shown = [] ∨ s.shown = [shn9]) : s.Len where
 judges := by rw [hj]; decide
 sealed := by rcases h1 with h | h <;> rw [h] <;> decide
 keys := by rw [hk]; decide
 shown := by rcases h2 with h | h <;> rw [h] <;> decide
 cards := by
  rcases h1 with h | h <;> rw [h] <;> intro x hx
  ·cases hx
  ·rw [List.mem_singleton.1 hx]; decide
 given := by
  rcases h2 with h | h <;> rw [h] <;> intro x hx
  ·cases hx
  ·rw [List.mem_singleton.1 hx]; decide
 crits := by omega
 need := by omega
open Go.Pv
set_option maxRecDepth 100000
set_option maxHeartbeats 16000000
theorem z73 (k t : Int) : PsLe (.int k :: .int t :: (k38 ++ ([.int 0, .int 0, .int 0, .int 0] ++ (.int 0 :: .nil :: zz)))) (y5h k t).enc := by
 unfold y5h Act.enc
 refine ⟨.refl _, .refl _, PsLe.append ?_ (PsLe.append (PsLe.refl _) ?_)⟩
 ·exact ⟨.refl _, .refl _, .refl _, .nil1, PsLe.refl _⟩
 ·exact ⟨.refl _, .nil1, PsLe.refl _⟩
theorem z5z (A B C X : List PV) (h : X.length = B.length) : q5i (A ++ (B ++ C)) A.length X = A ++ (X ++ C) := by
 have := q55 X A (B ++ C) 0
 rw [Nat.add_zero] at this
 rw [this, q7p _ _ _ _ (by omega), q56 _ _ h]
theorem j6z (x : Card) : q5i (.int 2 :: .int 0 :: (k38 ++ ([.int 0, .int 0, .int 0, .int 0] ++ (.int 0 :: .nil :: zz)))) 2 x.enc = .int 2 :: .int 0 :: (x.enc ++ ([.int 0, .int 0, .int 0, .int 0] ++ (.int 0 :: .nil :: zz))) :=
 z5z [.int 2, .int 0] k38 ([.int 0, .int 0, .int 0, .int 0] ++ (.int 0 :: .nil :: zz)) x.enc (by simp)
theorem y02 (x : Card) : PsLe (q5i (.int 2 :: .int 0 :: (k38 ++ ([.int 0, .int 0, .int 0, .int 0] ++ (.int 0 :: .nil :: zz)))) 2 x.enc) (⟨2, 0, x, default, default⟩ : Act).enc := by
 rw [j6z]
 unfold Act.enc
 refine ⟨.refl _, .refl _, PsLe.append (PsLe.refl _) (PsLe.append (PsLe.refl _) ?_)⟩
 exact ⟨.refl _, .nil1, PsLe.refl _⟩
theorem y03 : PsLe (.int 4 :: .int 0 :: (k38 ++ ([.int 0, .int 0, .int 0, .int 0] ++ (.int 3 :: .list true [.int 1000] 1 :: .val (.int .u8 1) :: zz.tail)))) actN.enc := by
 unfold actN Act.enc
 refine ⟨.refl _, .refl _, PsLe.append ?_ (PsLe.append (PsLe.refl _) ?_)⟩
 ·exact ⟨.refl _, .refl _, .refl _, .nil1, PsLe.refl _⟩
 ·exact ⟨.refl _, .loose, PsLe.refl _⟩
theorem j60 {s x : Ses} {a : Act} (hL : s.Len) (hc : a.card.c.length ≤ 100000) (hn : a.shown.k.length ≤ 100000) (hl : s.sealed.length ≤ 1000 ∧ s.keys.length ≤ 1000 ∧ s.shown.length ≤ 1000) (h : doR s a = .inl x) (st : q5d) (h0 : q5x st 0 = some (.arr T.t8uint32 Sha.start.row)) (h1 : q5x st 1 = some q9l) {L : List PV} (hle : PsLe L a.enc) : Rets P F.q25 [s.pv, .agg L] st (.tuple [x.pv, .int 0]) := by
 have := z35 s hL a hc hn hl st ⟨h0, h1⟩
 obtain ⟨e1, e2⟩ := y5g h
 rw [e1, e2] at this
 exact Rets.args (qs := [s.pv, a.pv]) ⟨.refl _, .aggs hle, trivial⟩ this
theorem y5k {s : Ses} {a : Act} {E : Int} (hL : s.Len) (hc : a.card.c.length ≤ 100000) (hn : a.shown.k.length ≤ 100000) (hl : s.sealed.length ≤ 1000 ∧ s.keys.length ≤ 1000 ∧ s.shown.length ≤ 1000) (h : doR s a = .inr E) (st : q5d) (h0 : q5x st 0 = some (.arr T.t8uint32 Sha.start.row)) (h1 : q5x st 1 = some q9l) {L : List PV} (hle : PsLe L a.enc) : Rets P F.q25 [s.pv, .agg L] st (.tuple [zeroSes.pv, .int E]) := by
 have := z35 s hL a hc hn hl st ⟨h0, h1⟩
 have e1 : doE s a = E := by unfold doE; rw [h]
 have e2 : doS s a = zeroSes := by unfold doS; rw [h]
 rw [e1, e2] at this
 exact Rets.args (qs := [s.pv, a.pv]) ⟨.refl _, .aggs hle, trivial⟩ this
theorem z74 (st : q5d) (hG : GL st) : Rets P F.q34 [] st (.bool true) := by
 have hN := q6l hG.h0 hG.h1
 have h0 := hG.h0
 have h1 := hG.h1
 have L2 : ses2.Len := y5j rfl rfl rfl rfl (.inl rfl) (.inl rfl)
 have L2L : ses2L.Len := y5j rfl rfl rfl rfl (.inl rfl) (.inl rfl)
 have L9 : ses9.Len := y5j rfl rfl rfl rfl (.inr rfl) (.inl rfl)
 have L9L : ses9L.Len := y5j rfl rfl rfl rfl (.inr rfl) (.inl rfl)
 have LN : sesN.Len := y5j rfl rfl rfl rfl (.inr rfl) (.inr rfl)
 have c1 : ∀ st, q5x st 0 = some (.arr T.t8uint32 Sha.start.row) → q5x st 1 = some q9l → Rets P F.q3t [.int 0, .int 0, .int 1, .nil, .int 1, .int 5] st (.tuple [zeroSes.pv, .int 1]) := fun st h0 h1 => by
  have := z0d 0 0 1 [] 1 5 (by simp) (by omega) (by omega) st ⟨h0, h1⟩
  have e : q6g (k20 0 0 1 [] 1 5) = false := by decide +kernel
  rw [e] at this
  exact Rets.args (qs := [.int 0, .int 0, .int 1, q5k false [], .int 1, .int 5]) ⟨.refl _, .refl _, .refl _, .nil0, .refl _, .refl _, trivial⟩ this
 have c2 := fun st h0 h1 => j01 st ⟨h0, h1⟩
 have c3 : ∀ st, q5x st 0 = some (.arr T.t8uint32 Sha.start.row) → q5x st 1 = some q9l → Rets P F.q3v [ses2.pv] st (.tuple [.bool false, .int 0]) := fun st h0 h1 => by
  have := z2f ses2 L2 st ⟨h0, h1⟩
  have e : q78 ses2 = false := by decide +kernel
  rw [q9q, e, if_pos rfl] at this
  exact this
 have c4 := fun st h0 h1 => y5k L2 (by decide) (by decide) (by decide) j6x st h0 h1 (z73 3 0)
 have c5 := fun st h0 h1 => j60 L2 (by decide) (by decide) (by decide) y01 st h0 h1 (z73 1 5)
 have c6 := fun st h0 h1 => z0k ses2L L2L (by decide) st ⟨h0, h1⟩
 rw [j4b, show q6g ses2L = true by decide +kernel, if_pos rfl] at c6
 have c7 := fun st h0 h1 => z4a st ⟨h0, h1⟩
 have c8 := fun st h0 h1 => j60 L2 (by decide) (by decide) (by decide) j38 st h0 h1 (y02 card9)
 have c9 := fun st h0 h1 => j60 L9 (by decide) (by decide) (by decide) j39 st h0 h1 (z73 1 6)
 have c10 := fun st h0 h1 => j60 L9L (by decide) (by decide) (by decide) j4a st h0 h1 y03
 have c11 := fun st h0 h1 => z0k sesN LN (by decide) st ⟨h0, h1⟩
 rw [j4c, (k0h _).2 z2m, if_pos rfl] at c11
 have c12 : ∀ st, q5x st 0 = some (.arr T.t8uint32 Sha.start.row) → q5x st 1 = some q9l → Rets P F.q1m [.agg [.int 0, .int 0, .int 0, .nil, .int 0, .int 0, .int 0, .nil, .nil, .nil]] st (.int 360) := fun st h0 h1 => by
  have := q9p zeroSes k5e st ⟨h0, h1⟩
  rw [show q6g zeroSes = false by decide +kernel] at this
  exact Rets.args (qs := [zeroSes.pv]) ⟨q57, trivial⟩ this
 have c13 : ∀ st, q5x st 0 = some (.arr T.t8uint32 Sha.start.row) → q5x st 1 = some q9l → Rets P F.q1m [ses2.pv] st (.int 0) := fun st h0 h1 => by
  have := q9p ses2 L2 st ⟨h0, h1⟩
  rw [q9q, if_pos rfl] at this
  exact this
 have c14 : ∀ st, Rets P F.q09 [Opd.lst false [⟨3, []⟩, ⟨3, []⟩], .list true [.int 3, .nil, .int 3, .nil] 2] st (.bool true) := fun st =>
  Rets.args (qs := [Opd.lst false [⟨3, []⟩, ⟨3, []⟩], Opd.lst true [⟨3, []⟩, ⟨3, []⟩]]) ⟨.refl _, .lists ⟨.refl _, .nil1, .refl _, .nil1, trivial⟩, trivial⟩ (k3w false true _ (by simp) (by simp) st)
 have c15 : ∀ st, Rets P F.q09 [Opd.lst false [⟨1, [9]⟩, ⟨3, []⟩], .list true [.int 1, .list true [.int 9] 1, .int 3, .nil] 2] st (.bool true) := fun st =>
  Rets.args (qs := [Opd.lst false [⟨1, [9]⟩, ⟨3, []⟩], Opd.lst true [⟨1, [9]⟩, ⟨3, []⟩]]) ⟨.refl _, .lists ⟨.refl _, .loose, .refl _, .nil1, trivial⟩, trivial⟩ (k3w false true _ (by simp) (by simp) st)
 simp only [List.cons_append, List.nil_append, List.tail_cons] at c4 c5 c8 c9 c10
 generalize Opd.lst false [⟨3, []⟩, ⟨3, []⟩] = O1 at *
 generalize Opd.lst false [⟨1, [9]⟩, ⟨3, []⟩] = O2 at *
 clear hG L2 L2L L9 L9L LN
 refine H.q34.view q5m rfl rfl ?_
 repeat' (first 
  | (with_reducible refine Fresh.intro fun b hb => ?_) <;> (try simp -dsimp -implicitDefEqProofs [*] at hb)
  | (with_reducible refine Rets.xcall (c1 _ (by simp [*]) (by simp [*])) ?_)
  | (with_reducible refine Rets.xcall (c2 _ (by simp [*]) (by simp [*])) ?_)
  | (with_reducible refine Rets.xcall (c3 _ (by simp [*]) (by simp [*])) ?_)
  | (with_reducible refine Rets.xcall (c4 _ (by simp [*]) (by simp [*])) ?_)
  | (with_reducible refine Rets.xcall (c5 _ (by simp [*]) (by simp [*])) ?_)
  | (with_reducible refine Rets.xcall (c6 _ (by simp [*]) (by simp [*])) ?_)
  | (with_reducible refine Rets.xcall (c7 _ (by simp [*]) (by simp [*])) ?_)
  | (with_reducible refine Rets.xcall (c8 _ (by simp [*]) (by simp [*])) ?_)
  | (with_reducible refine Rets.xcall (c9 _ (by simp [*]) (by simp [*])) ?_)
  | (with_reducible refine Rets.xcall (c10 _ (by simp [*]) (by simp [*])) ?_)
  | (with_reducible refine Rets.xcall (c11 _ (by simp [*]) (by simp [*])) ?_)
  | (with_reducible refine Rets.xcall (c12 _ (by simp [*]) (by simp [*])) ?_)
  | (with_reducible refine Rets.xcall (c13 _ (by simp [*]) (by simp [*])) ?_)
  | (with_reducible refine Rets.xcall (c14 _) ?_)
  | (with_reducible refine Rets.xcall (c15 _) ?_)
  | (with_reducible refine Lit.imm ?_)
  | (simp -dsimp -implicitDefEqProofs [*]))
 exact RetView.drop (st' := st) q5q ⟨rfl, rfl⟩
open Go.Pv
set_option maxRecDepth 100000
set_option maxHeartbeats 16000000
theorem y04 {α : Type} {l : List α} {i : Nat} {x y : α} (h : y ∈ ins l i x) : y ∈ l ∨ y = x := by
 unfold ins at h
 rw [List.mem_append, List.mem_cons] at h
 rcases h with h | h | h
 ·exact .inl (List.mem_of_mem_take h)
 ·exact .inr h
 ·exact .inl (List.mem_of_mem_drop h)
theorem z89 {α : Type} {d : α → Int} {sm : α → Bool} {l l' : List α} {x y : α} (hp : k49 d sm l x = some l') (h : y ∈ l') : y ∈ l ∨ y = x := by
 unfold k49 at hp
 split at hp
 ·split at hp
  ·split at hp
   ·cases hp; exact .inl h
   ·cases hp
  ·cases hp
 ·cases hp; exact y04 h
theorem j61 {s : Ses} {x : Card} {l : List Card} (h : k2v s x = .inl l) : y2s s x = some l := by
 unfold k2v at h
 split at h
 ·cases h
 split at h
 ·split at h
  ·rename_i m e
   rw [e, Sum.inl.inj h]
  ·cases h
 ·cases h
theorem j4d {s : Ses} {x : Sh} {l : List Sh} (h : q95 s x = .inl l) : y2t s x = some l := by
 unfold q95 at h
 split at h
 ·split at h
  ·split at h
   ·rename_i m e
    rw [e, Sum.inl.inj h]
   ·cases h
  ·cases h
 ·cases h
theorem j62 {s : Ses} {x : Shn} {l : List Shn} (h : k2w s x = .inl l) : y2u s x = some l := by
 unfold k2w at h
 split at h
 ·split at h
  ·split at h
   ·rename_i m e
    rw [e, Sum.inl.inj h]
   ·cases h
  ·cases h
 ·cases h
theorem y05 {s : Ses} (hL : s.Len) (h1 : s.sealed.length ≤ 1000) (h2 : s.keys.length ≤ 1000) (h3 : s.shown.length ≤ 1000) {a : Act} (ha : a.card.c.length ≤ 100000) (ha2 : a.shown.k.length ≤ 100000) : (doS s a).Len := by
 unfold doS
 cases h : doR s a with
 | inr e => exact k5e
 | inl x =>
  cases (z87 h).2 with
  | dPass _ _ => exact ⟨hL.judges, hL.sealed, hL.keys, hL.shown, hL.cards, hL.given, hL.crits, hL.need⟩
  | dSeal _ hp =>
   have hp := j61 hp
   refine ⟨hL.judges, ?_, hL.keys, hL.shown, fun y hy => ?_, hL.given, hL.crits, hL.need⟩
   ·have := z4b hp
    exact Nat.le_trans this (by omega)
   ·rcases z89 hp hy with k | k
    ·exact hL.cards y k
    ·rw [k]; exact ha
  | dShare _ hp =>
   have hp := j4d hp
   refine ⟨hL.judges, hL.sealed, ?_, hL.shown, hL.cards, hL.given, hL.crits, hL.need⟩
   have := z4b hp
   exact Nat.le_trans this (by omega)
  | dShow _ hp =>
   have hp := j62 hp
   refine ⟨hL.judges, hL.sealed, hL.keys, ?_, hL.cards, fun y hy => ?_, hL.crits, hL.need⟩
   ·have := z4b hp
    exact Nat.le_trans this (by omega)
   ·rcases z89 hp hy with k | k
    ·exact hL.given y k
    ·rw [k]; exact ha2
theorem j63 {s : Ses} (hL : s.Len) : (k20 s.round s.entry s.crits s.judges s.need s.deadline).Len :=
 ⟨hL.judges, by simp [k20], by simp [k20], by simp [k20], by simp [k20], by simp [k20], hL.crits, hL.need⟩
structure Wide (s : Ses) : Prop where
 c : -9223372036854775808 ≤ s.crits ∧ s.crits < 9223372036854775808
 n : -9223372036854775808 ≤ s.need ∧ s.need < 9223372036854775808
open Go.Pv
set_option maxRecDepth 100000
set_option maxHeartbeats 16000000
def k6j (f : List Card → Ses) : List Card ⊕ Int → Ses
 | .inl l => f l
 | .inr _ => zeroSes
def k7n {α : Type} : α ⊕ Int → Int
 | .inl _ => 0
 | .inr e => e
theorem j8j {α : Type} {d : α → Int} {l : List α} {i : Nat} (h1 : i ≤ l.length) (h2 : ∀ k (_ : k < i) (h : k < l.length), d l[k] < 0) (h3 : ∀ h : i < l.length, ¬ d l[i] < 0) : q97 d l = i ∧ k8c d l = (if h : i < l.length then decide (d l[i] = 0) else false) := by
 have e : q97 d l = i := by
  unfold q97
  rcases Nat.lt_or_ge i l.length with hil | hil
  ·rw [List.findIdx_eq hil]
   refine ⟨by have := h3 hil; simp; omega, fun k hk => ?_⟩
   have := h2 k hk (by omega)
   simpa using this
  ·rw [List.findIdx_eq_length.2]
   ·omega
   ·intro x hx
    obtain ⟨k, hk, rfl⟩ := List.mem_iff_getElem.1 hx
    have := h2 k (by omega) hk
    simpa using this
 subst e
 exact ⟨rfl, rfl⟩
theorem z0m {α : Type} {d : α → Int} {sm : α → Bool} {l : List α} {x : α} {i : Nat} (h1 : i < l.length) (h2 : ∀ k (_ : k < i) (h : k < l.length), d l[k] < 0) (h0 : d l[i] = 0) : k49 d sm l x = if sm l[i] = true then some l else none := by
 obtain ⟨a, b⟩ := j8j (i := i) (by omega) h2 fun _ => by omega
 rw [dif_pos h1, decide_eq_true h0] at b
 unfold k49
 rw [if_pos b, a, List.getElem?_eq_getElem h1]
theorem k7o {α : Type} {d : α → Int} {sm : α → Bool} {l : List α} {x : α} {i : Nat} (h1 : i ≤ l.length) (h2 : ∀ k (_ : k < i) (h : k < l.length), d l[k] < 0) (h3 : ∀ h : i < l.length, 0 < d l[i]) : k49 d sm l x = some (ins l i x) := by
 obtain ⟨a, b⟩ := j8j (i := i) h1 h2 fun h => by have := h3 h; omega
 have hf : k8c d l = false := by
  rw [b]
  split
  ·rename_i h
   exact decide_eq_false (by have := h3 h; omega)
  ·rfl
 unfold k49
 rw [hf, if_neg (by simp), a]
theorem Frzs.setAt {b : Nat} {o : PObj} {p q : PV} (h : Frz b o p q) : ∀ (l : List PV) (i : Nat), Frzs b o (l.set i p) (l.set i q)
 | [], _ => .nil
 | x :: l, 0 => .cons h (Frzs.refl l)
 | x :: l, i + 1 => .cons (.refl x) (Frzs.setAt h l i)
theorem Card.row_take (l : List Card) (i : Nat) : (Card.row l).take (i * 36) = Card.row (l.take i) := k3f Card.enc 36 Card.len l i
theorem Card.row_drop (l : List Card) (i : Nat) : (Card.row l).drop (i * 36) = Card.row (l.drop i) := k0u Card.enc 36 Card.len l i
theorem j08 (s : Ses) (hL : s.Len) (x : Card) (hx : x.c.length ≤ 100000) (st : q5d) : Rets P F.q35 [s.pv, x.pv] st (.tuple [(k6j (fun l => { s with sealed := l }) (k2v s x)).pv, .int (k7n (k2v s x))]) := by
 have co := k13 s
 have cs := z0f s hL.judges x hx
 have hl := hL.sealed
 have hc := Hid.mk hL.cards
 obtain ⟨W, hW⟩ : ∃ W, W = k2v s x := ⟨_, rfl⟩
 rw [← hW]
 unfold k2v at hW
 clear hL
 generalize q78 s = O at *
 generalize q8f s x = S at *
 refine H.q35.view q5m rfl rfl ?_
 cases O with
 | true =>
  replace hW : W = .inr 360 := hW
  subst hW
  simp only [k6j, k7n]
  clear cs hc
  repeat' (first 
   | (with_reducible refine Fresh.intro fun b hb => ?_) <;> (try simp -dsimp -implicitDefEqProofs [*] at hb)
   | (with_reducible refine Rets.xcall (co _) ?_)
   | (simp -dsimp -implicitDefEqProofs [*]))
  exact RetView.le (PLe.tuple2 q57 (.refl _)) (RetView.drop (st' := st) q5q ⟨rfl, rfl⟩)
 | false =>
 cases S with
 | false =>
  replace hW : W = .inr 1 := hW
  subst hW
  simp only [k6j, k7n]
  clear hc
  repeat' (first 
   | (with_reducible refine Fresh.intro fun b hb => ?_) <;> (try simp -dsimp -implicitDefEqProofs [*] at hb)
   | (with_reducible refine Rets.xcall (co _) ?_)
   | (with_reducible refine Rets.xcall (cs _) ?_)
   | (simp -dsimp -implicitDefEqProofs [*]))
  exact RetView.le (PLe.tuple2 q57 (.refl _)) (RetView.drop (st' := st) q5q ⟨rfl, rfl⟩)
 | true =>
 replace hW : W = match y2s s x with
  | some l => .inl l
  | none => .inr 141 := hW
 unfold y2s at hW
 replace hW := Hid.mk hW
 repeat' (first 
  | (with_reducible refine Fresh.intro fun b hb => ?_) <;> (try simp -dsimp -implicitDefEqProofs [*] at hb)
  | (with_reducible refine Rets.xcall (co _) ?_)
  | (with_reducible refine Rets.xcall (cs _) ?_)
  | (simp -dsimp -implicitDefEqProofs [*]))
 revert b
 revert b
 revert b
 intro b1 hb1 b2 hb2 b3 hb3
 clear co cs
 have hse : ∀ v, sub (s.enc.set 7 v) 0 10 = some (s.enc.set 7 v) := fun v => sub_all (by simp)
 have hsc : ∀ v, q5i [.int 0, .int 0, .int 0, .nil, .int 0, .int 0, .int 0, .nil, .nil, .nil] 0 (s.enc.set 7 v) = s.enc.set 7 v := fun v => q56 _ _ (by simp)
 refine q5g (fun n : Nat => [(2, .ptr b1 0), (3, .ptr b2 0), (4, .ptr b3 0), (5, .int 0), (6, .int n)]) (fun _ => (b3, .arr T.apiSession [.int 0, .int 0, .int 0, .nil, .int 0, .int 0, .int 0, .nil, .nil, .nil]) :: (b2, .arr T.apiSealed x.enc) :: (b1, .arr T.apiSession s.enc) :: st) (fun n => n ≤ s.sealed.length ∧ Hid (∀ k (_ : k < n) (h : k < s.sealed.length), q9t s.sealed[k].j x.j < 0)) (fun n => s.sealed.length - n) 0 ⟨Nat.zero_le _, ⟨fun k h => absurd h (by omega)⟩⟩ (by simp) (.refl _) ?_
 rintro n ⟨hn, hI⟩
 have hold : s.enc[7]'(by simp) = Card.lst false s.sealed := rfl
 have hlt : (Card.row s.sealed).take (n * 36) = Card.row (s.sealed.take n) := Card.row_take s.sealed n
 have hld : (Card.row s.sealed).drop (n * 36) = Card.row (s.sealed.drop n) := Card.row_drop s.sealed n
 have hmin : min (n * 36) (s.sealed.length * 36) = n * 36 := by omega
 have hsub : s.sealed.length * 36 - n * 36 = (s.sealed.length - n) * 36 := by omega
 by_cases hnl : n < s.sealed.length
 ·have hw := q5h (n := n) (by omega)
  have g1 := Card.row_get2 s.sealed n hnl
  have E1 : ∀ h, (Card.row s.sealed)[n * 36 + 2]'h = .int s.sealed[n].j := fun h => by have := List.getElem?_eq_getElem h; rw [g1] at this; exact (Option.some.inj this).symm
  have hk2 : n * 36 + 2 < s.sealed.length * 36 := by omega
  have hk0 : n * 36 < s.sealed.length * 36 := by omega
  have s0 := Card.row_sub s.sealed n hnl
  by_cases h1 : s.sealed[n].j < x.j
  ·have hI2 : Hid (∀ k (_ : k < n + 1) (h : k < s.sealed.length), q9t s.sealed[k].j x.j < 0) := ⟨fun k hk h => if e : k = n then by subst e; exact q7x.2 h1 else hI.out k (by omega) h⟩
   clear hI hW hc
   repeat' (simp -dsimp -implicitDefEqProofs [*])
   exact Next.intro (n + 1) ⟨by omega, hI2⟩ (by omega) (by simp) q5q
  by_cases h2 : s.sealed[n].j = x.j
  ·have hp := z0m (d := fun y : Card => q9t y.j x.j) (sm := fun y => k7d y x) (x := x) hnl (fun k hk h => hI.out k hk h) (cmpI_eq.2 h2)
   have hsm : k7d s.sealed[n] x = decide (s.sealed[n] = x) := by rw [Bool.eq_iff_iff, z5y (cmpI_eq.2 h2), decide_eq_true_eq]
   have e := hW.out
   rw [hp, hsm] at e
   have c1 := k2t s.sealed[n] x (by have := hc.out _ (List.getElem_mem hnl); omega)
   clear hI hW hp hsm hc
   cases hv : decide (s.sealed[n] = x) with
   | false =>
    rw [hv] at e c1
    replace e : W = .inr 141 := e
    subst e
    obtain ⟨y, hy⟩ : ∃ y, y = s.sealed[n] := ⟨_, rfl⟩
    rw [← hy] at c1 g1 s0 h1 h2
    simp only [← hy] at E1
    clear hv hy
    simp only [k6j, k7n]
    repeat' (first 
     | (with_reducible refine Rets.xcall (c1 _) ?_)
     | (with_reducible refine DrawLate.intro [] ?_)
     | (simp -dsimp -implicitDefEqProofs [*]))
    exact RetView.le (PLe.tuple2 q57 (.refl _)) (RetView.drop (st' := st) q5q ⟨rfl, rfl⟩)
   | true =>
    rw [hv] at e c1
    replace e : W = .inl s.sealed := e
    subst e
    obtain ⟨y, hy⟩ : ∃ y, y = s.sealed[n] := ⟨_, rfl⟩
    rw [← hy] at c1 g1 s0 h1 h2
    simp only [← hy] at E1
    clear hv hy
    simp only [k6j, k7n]
    repeat' (first 
     | (with_reducible refine Rets.xcall (c1 _) ?_)
     | (with_reducible refine DrawLate.intro [] ?_)
     | (simp -dsimp -implicitDefEqProofs [*]))
    exact RetView.drop (st' := st) q5q ⟨rfl, rfl⟩
  ·have hp := k7o (d := fun y : Card => q9t y.j x.j) (sm := fun y => k7d y x) (x := x) hn (fun k hk h => hI.out k hk h) (fun _ => k7f.2 (by omega))
   have e := hW.out
   rw [hp] at e
   replace e : W = .inl (ins s.sealed n x) := e
   subst e
   clear hI hW hp hc
   simp only [k6j, k7n]
   obtain ⟨Z, hZ⟩ : ∃ Z, Z = ({ s with sealed := ins s.sealed n x } : Ses) := ⟨_, rfl⟩
   rw [← hZ]
   replace hZ := Hid.mk hZ
   repeat' (first 
    | (with_reducible refine DrawLate.intro [] ?_)
    | (simp -dsimp -implicitDefEqProofs [-q5f, *]))
   refine q50 Card.row_len Card.row_append (none : Option (Acc Card)) trivial (s.sealed.take n) rfl (by simp; omega) (by simp; omega) fun o1 ho1 hl1 => ?_
   refine q76 (q6i ho1 (Cls.self _ _)) ?_
   repeat' (simp -dsimp -implicitDefEqProofs [-q5f, *])
   refine q50 Card.row_len Card.row_append o1 ho1 [x] (by simp) (by simp) (by simp [hl1]; omega) fun o2 ho2 hl2 => ?_
   refine q76 (q6i ho2 (Cls.self _ _)) ?_
   repeat' (simp -dsimp -implicitDefEqProofs [-q5f, *])
   refine q50 Card.row_len Card.row_append o2 ho2 (s.sealed.drop n) rfl (by simp) (by simp [hl1, hl2]; omega) fun o3 ho3 hl3 => ?_
   refine q76 (q6i ho3 (Cls.self _ _)) ?_
   have hfin : Hid (q59 o3 = ins s.sealed n x) := ⟨by rw [hl3, hl2, hl1]; simp [ins]⟩
   clear ho1 hl1 ho2 hl2 hl3
   cases o3 with
   | none => exact absurd hfin.out (by simp [ins])
   | some a =>
    obtain ⟨ha, hsn⟩ := ho3
    simp only [k0t] at hsn
    simp only [q6z, j77]
    replace ha := Hid.mk ha
    repeat' (simp -dsimp -implicitDefEqProofs [-q5f, *])
    clear hse hsc
    refine RetView.freeze (.tuple [Z.pv, .int 0]) (by simp [*]) (.tuple (.cons (.agg ?_) (.cons (.refl _) .nil))) (RetView.drop (st' := st) q5q ⟨rfl, rfl⟩)
    have e1 : a.l = ins s.sealed n x := hfin.out
    rw [hZ.out, ← Ses.set7, ← e1]
    exact Frzs.setAt (Frz.acc ha.out) _ _
 ·have hp := k7o (d := fun y : Card => q9t y.j x.j) (sm := fun y => k7d y x) (x := x) hn (fun k hk h => hI.out k hk h) (fun h => absurd h hnl)
  have e := hW.out
  rw [hp] at e
  replace e : W = .inl (ins s.sealed n x) := e
  subst e
  clear hI hW hp hc
  simp only [k6j, k7n]
  obtain ⟨Z, hZ⟩ : ∃ Z, Z = ({ s with sealed := ins s.sealed n x } : Ses) := ⟨_, rfl⟩
  rw [← hZ]
  replace hZ := Hid.mk hZ
  repeat' (first 
   | (with_reducible refine DrawLate.intro [] ?_)
   | (simp -dsimp -implicitDefEqProofs [-q5f, *]))
  refine q50 Card.row_len Card.row_append (none : Option (Acc Card)) trivial (s.sealed.take n) rfl (by simp; omega) (by simp; omega) fun o1 ho1 hl1 => ?_
  refine q76 (q6i ho1 (Cls.self _ _)) ?_
  repeat' (simp -dsimp -implicitDefEqProofs [-q5f, *])
  refine q50 Card.row_len Card.row_append o1 ho1 [x] (by simp) (by simp) (by simp [hl1]; omega) fun o2 ho2 hl2 => ?_
  refine q76 (q6i ho2 (Cls.self _ _)) ?_
  repeat' (simp -dsimp -implicitDefEqProofs [-q5f, *])
  refine q50 Card.row_len Card.row_append o2 ho2 (s.sealed.drop n) rfl (by simp) (by simp [hl1, hl2]; omega) fun o3 ho3 hl3 => ?_
  refine q76 (q6i ho3 (Cls.self _ _)) ?_
  have hfin : Hid (q59 o3 = ins s.sealed n x) := ⟨by rw [hl3, hl2, hl1]; simp [ins]⟩
  clear ho1 hl1 ho2 hl2 hl3
  cases o3 with
  | none => exact absurd hfin.out (by simp [ins])
  | some a =>
   obtain ⟨ha, hsn⟩ := ho3
   simp only [k0t] at hsn
   simp only [q6z, j77]
   replace ha := Hid.mk ha
   repeat' (simp -dsimp -implicitDefEqProofs [-q5f, *])
   clear hse hsc
   refine RetView.freeze (.tuple [Z.pv, .int 0]) (by simp [*]) (.tuple (.cons (.agg ?_) (.cons (.refl _) .nil))) (RetView.drop (st' := st) q5q ⟨rfl, rfl⟩)
   have e1 : a.l = ins s.sealed n x := hfin.out
   rw [hZ.out, ← Ses.set7, ← e1]
   exact Frzs.setAt (Frz.acc ha.out) _ _
end Go.Proofs.YtnooplpbpfiapaaGreatDoor
