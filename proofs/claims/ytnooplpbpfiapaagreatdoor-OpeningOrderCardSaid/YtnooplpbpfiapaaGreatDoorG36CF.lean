/- What was sealed is opened by its keys: plain. -/
import Derived.Test.YtnooplpbpfiapaaGreatDoorG36CA
import Derived.Test.YtnooplpbpfiapaaGreatDoorG36AG
import Derived.Test.YtnooplpbpfiapaaGreatDoorLBx
import Derived.Test.YtnooplpbpfiapaaGreatDoorG36BR
import Derived.Test.YtnooplpbpfiapaaGreatDoorRows
import Derived.Test.YtnooplpbpfiapaaGreatDoorCards
import Derived.Test.YtnooplpbpfiapaaGreatDoorTie
import Derived.WalkKit
import Derived.ProofKit
import Derived.OpenShut
import Derived.ChangeOld
import Derived.Below
import Derived.LaidMore
import Derived.SevenTiedAt
import Derived.Stop.Joined
import Derived.Test.YtnooplpbpfiapaaGreatDoorLRd
import Derived.Test.YtnooplpbpfiapaaGreatDoorLBr
import Derived.SizedLaws
namespace Go.Proofs.YtnooplpbpfiapaaGreatDoor
open Go.Pv Go.Pv.Sha
set_option maxRecDepth 100000
theorem j5e {x y : Int} (hx : 0 ≤ x) (hx2 : x ≤ 1000) (hy : 0 ≤ y) (hy2 : y ≤ 1073741788) : z4s ((x + y) % QI) y = x := by
 unfold z4s QI
 split <;> omega
theorem j74 {l : List Int} {most : Int} (h1 : 1 ≤ l.length) (h2 : l.length ≤ 64) (h3 : ∀ x ∈ l, 0 ≤ x ∧ x ≤ most) : q7c l most = true := by
 unfold q7c
 simp only [Bool.and_eq_true, decide_eq_true_eq, List.all_eq_true]
 exact ⟨⟨h1, h2⟩, fun x hx => by unfold wi; have := h3 x hx; simp [this.1, this.2]⟩
structure BackF (r e j : Int) (m k : List Int) (salt : List (BitVec 8)) : Prop where
 make : y8k r e j m k = true
 ope : k4k r e j (k2e m k) (j55 r e j m k salt) k salt = some m
 strip : q8q r e j (k2e m k) k = some m
 chk : chk r e j (k2e m k) = true
theorem j2a {r e j : Int} {m k : List Int} {salt : List (BitVec 8)} (hp : q75 r e j = true) (h1 : q7c m 1000 = true) (h2 : q7c k 1073741788 = true) (h3 : m.length = k.length) : BackF r e j m k salt := by
 have hb : q65 (k2e m k) k = m := by
  refine List.ext_getElem (by simp [q65, k2e, h3]) fun i hi hi2 => ?_
  have hik : i < k.length := by omega
  have b1 := q59 h1 _ (List.getElem_mem hi2)
  have b2 := q59 h2 _ (List.getElem_mem hik)
  simp only [q65, k2e, List.getElem_zipWith]
  exact j5e b1.1 b1.2 b2.1 b2.2
 have l1 := k2c h1
 have hl : (k2e m k).length = m.length := by simp [k2e, h3]
 have hc : q7c (k2e m k) 1073741788 = true := by
  refine j74 (by omega) (by omega) fun n hn => ?_
  obtain ⟨i, hi, rfl⟩ := List.mem_iff_getElem.1 hn
  simp only [k2e, List.getElem_zipWith]
  unfold QI
  omega
 have hk : Go.Proofs.YtnooplpbpfiapaaGreatDoor.chk r e j (k2e m k) = true := by simp [Go.Proofs.YtnooplpbpfiapaaGreatDoor.chk, hp, hc]
 have hbo : q6g r e j (k2e m k) k = true := by simp [q6g, hk, h2, hl, h3]
 refine ⟨by simp [y8k, hp, h1, h2, h3], ?_, ?_, hk⟩
 ·unfold k4k
  rw [hb, hbo, h1]
  simp
 ·unfold q8q
  rw [hb, hbo, h1]
  simp
open Go.Pv
set_option maxRecDepth 100000
def y6u (k t : Int) : Act := ⟨k, t, default, default, default⟩
def ses2L : Ses := { ses2 with time := 5 }
def ses9 : Ses := { ses2 with sealed := [card9] }
def ses9L : Ses := { ses9 with time := 6 }
def shn9 : Shn := ⟨3, [1000], z87⟩
def sesN : Ses := { ses9L with shown := [shn9] }
theorem j75 : doR ses2 (y6u 3 0) = .inr 360 := by
 unfold doR
 rw [if_pos q91]
 rfl
theorem y18 : doR ses2 (y6u 1 5) = .inl ses2L := Did.to q91 (.dPass rfl (by decide +kernel))
theorem j2b : q78 ses2 card9 = true := by decide +kernel
def actS : Act := ⟨2, 0, card9, default, default⟩
theorem j5f : doR ses2 actS = .inl ses9 := by
 refine Did.to q91 (.dSeal rfl ?_)
 unfold q86
 rw [if_neg (by decide +kernel)]
 have : q78 ses2 actS.card = true := j2b
 rw [if_pos this]
 rfl
theorem z3f : RightP ses9 := (z3c j5f).2.right ((q61 _).1 q91)
theorem j5g : doR ses9 (y6u 1 6) = .inl ses9L := Did.to ((q61 _).2 z3f) (.dPass rfl (by decide +kernel))
theorem z03 : RightP ses9L := (z3c j5g).2.right z3f
theorem y6v : q9j card9 shn9 = some [9] := (j2a (r := 0) (e := 0) (j := 3) (m := [9]) (k := [1000]) (salt := z87.1) (by decide +kernel) (by decide +kernel) (by decide +kernel) rfl).ope
theorem j0i {s : Ses} (h : s.sealed = [card9]) : q8e s 3 = some card9 := by
 unfold q8e
 rw [h]
 rfl
theorem j76 {s : Ses} (h : s.sealed = [card9]) : q8e s 7 = none := by
 unfold q8e
 rw [h]
 rfl
def actN : Act := ⟨4, 0, default, default, shn9⟩
theorem j5h : doR ses9L actN = .inl sesN := by
 refine Did.to ((q61 _).2 z03) (.dShow rfl ?_)
 unfold k26
 rw [if_pos (by decide +kernel), if_pos]
 ·rfl
 ·show q79 ses9L shn9 = true
  unfold q79
  have : q8e ses9L shn9.j = some card9 := j0i rfl
  rw [this]
  show (q9j card9 shn9).isSome = true
  rw [y6v]
  rfl
theorem z3g : RightP sesN := (z3c j5h).2.right z03
theorem j5i : q71 ses2L = [⟨3, []⟩, ⟨3, []⟩] := by decide +kernel
theorem j5j : q71 sesN = [⟨1, [9]⟩, ⟨3, []⟩] := by
 unfold q71
 rw [if_pos ((q61 _).2 z3g)]
 show [q6m sesN 3, q6m sesN 7] = _
 have ho : q6l sesN = true := by decide +kernel
 have h1 := z46 (s := sesN) (j := 3) (x := card9) (y := shn9) ho (j0i rfl) rfl
 rw [y6v] at h1
 rw [h1, k7y ho (j76 rfl)]
 rfl
theorem y6w {s : Ses} (hj : s.judges = [3, 7]) (hc : s.crits = 1) (hn : s.need = 2) (hk : s.keys = []) (h1 : s.sealed = [] ∨ s.sealed = [card9]) (h2 : s.shown = [] ∨ s.shown = [shn9]) : s.Len where
 judges := by rw [hj]; decide
 sealed := by rcases h1 with h | h <;> rw [h] <;> decide
 keys := by rw [hk]; decide
 shown := by rcases h2 with h | h <;> rw [h] <;> decide
 cards := by
  rcases h1 with h | h <;> rw [h] <;> intro x hx
  ·cases hx
  ·rw [List.mem_singleton.1 hx]; decide
 given := by
  rcases h2 with h | h <;> rw [h] <;> intro x hx
  ·cases hx
  ·rw [List.mem_singleton.1 hx]; decide
 crits := by omega
 need := by omega
open Go.Pv
set_option maxRecDepth 100000
set_option maxHeartbeats 16000000
theorem z9a (k t : Int) : PsLe (.int k :: .int t :: (q7m ++ ([.int 0, .int 0, .int 0, .int 0] ++ (.int 0 :: .nil :: zz)))) (y6u k t).enc := by
 unfold y6u Act.enc
 refine ⟨.refl _, .refl _, PsLe.append ?_ (PsLe.append (PsLe.refl _) ?_)⟩
 ·exact ⟨.refl _, .refl _, .refl _, .nil1, PsLe.refl _⟩
 ·exact ⟨.refl _, .nil1, PsLe.refl _⟩
theorem k32 (A B C X : List PV) (h : X.length = B.length) : q5j (A ++ (B ++ C)) A.length X = A ++ (X ++ C) := by
 have := q56 X A (B ++ C) 0
 rw [Nat.add_zero] at this
 rw [this, q7s _ _ _ _ (by omega), q6f _ _ h]
theorem j77 (x : Card) : q5j (.int 2 :: .int 0 :: (q7m ++ ([.int 0, .int 0, .int 0, .int 0] ++ (.int 0 :: .nil :: zz)))) 2 x.enc = .int 2 :: .int 0 :: (x.enc ++ ([.int 0, .int 0, .int 0, .int 0] ++ (.int 0 :: .nil :: zz))) :=
 k32 [.int 2, .int 0] q7m ([.int 0, .int 0, .int 0, .int 0] ++ (.int 0 :: .nil :: zz)) x.enc (by simp)
theorem j5k (x : Card) : PsLe (q5j (.int 2 :: .int 0 :: (q7m ++ ([.int 0, .int 0, .int 0, .int 0] ++ (.int 0 :: .nil :: zz)))) 2 x.enc) (⟨2, 0, x, default, default⟩ : Act).enc := by
 rw [j77]
 unfold Act.enc
 refine ⟨.refl _, .refl _, PsLe.append (PsLe.refl _) (PsLe.append (PsLe.refl _) ?_)⟩
 exact ⟨.refl _, .nil1, PsLe.refl _⟩
theorem y19 : PsLe (.int 4 :: .int 0 :: (q7m ++ ([.int 0, .int 0, .int 0, .int 0] ++ (.int 3 :: .list true [.int 1000] 1 :: .val (.int .u8 1) :: zz.tail)))) actN.enc := by
 unfold actN Act.enc
 refine ⟨.refl _, .refl _, PsLe.append ?_ (PsLe.append (PsLe.refl _) ?_)⟩
 ·exact ⟨.refl _, .refl _, .refl _, .nil1, PsLe.refl _⟩
 ·exact ⟨.refl _, .loose, PsLe.refl _⟩
theorem j78 {s x : Ses} {a : Act} (hL : s.Len) (hc : a.card.c.length ≤ 100000) (hn : a.shown.k.length ≤ 100000) (hl : s.sealed.length ≤ 1000 ∧ s.keys.length ≤ 1000 ∧ s.shown.length ≤ 1000) (h : doR s a = .inl x) (st : q5e) (h0 : q5y st 0 = some (.arr T.t8uint32 Sha.start.row)) (h1 : q5y st 1 = some q9i) {L : List PV} (hle : PsLe L a.enc) : Rets P F.q19 [s.pv, .agg L] st (.tuple [x.pv, .int 0]) := by
 have := k2z s hL a hc hn hl st ⟨h0, h1⟩
 obtain ⟨e1, e2⟩ := z3d h
 rw [e1, e2] at this
 exact Rets.args (qs := [s.pv, a.pv]) ⟨.refl _, .aggs hle, trivial⟩ this
theorem y6x {s : Ses} {a : Act} {E : Int} (hL : s.Len) (hc : a.card.c.length ≤ 100000) (hn : a.shown.k.length ≤ 100000) (hl : s.sealed.length ≤ 1000 ∧ s.keys.length ≤ 1000 ∧ s.shown.length ≤ 1000) (h : doR s a = .inr E) (st : q5e) (h0 : q5y st 0 = some (.arr T.t8uint32 Sha.start.row)) (h1 : q5y st 1 = some q9i) {L : List PV} (hle : PsLe L a.enc) : Rets P F.q19 [s.pv, .agg L] st (.tuple [zeroSes.pv, .int E]) := by
 have := k2z s hL a hc hn hl st ⟨h0, h1⟩
 have e1 : doE s a = E := by unfold doE; rw [h]
 have e2 : doS s a = zeroSes := by unfold doS; rw [h]
 rw [e1, e2] at this
 exact Rets.args (qs := [s.pv, a.pv]) ⟨.refl _, .aggs hle, trivial⟩ this
theorem k5l (st : q5e) (hG : GL st) : Rets P F.q25 [] st (.bool true) := by
 have hN := q6e hG.h0 hG.h1
 have h0 := hG.h0
 have h1 := hG.h1
 have L2 : ses2.Len := y6w rfl rfl rfl rfl (.inl rfl) (.inl rfl)
 have L2L : ses2L.Len := y6w rfl rfl rfl rfl (.inl rfl) (.inl rfl)
 have L9 : ses9.Len := y6w rfl rfl rfl rfl (.inr rfl) (.inl rfl)
 have L9L : ses9L.Len := y6w rfl rfl rfl rfl (.inr rfl) (.inl rfl)
 have LN : sesN.Len := y6w rfl rfl rfl rfl (.inr rfl) (.inr rfl)
 have c1 : ∀ st, q5y st 0 = some (.arr T.t8uint32 Sha.start.row) → q5y st 1 = some q9i → Rets P F.q4a [.int 0, .int 0, .int 1, .nil, .int 1, .int 5] st (.tuple [zeroSes.pv, .int 1]) := fun st h0 h1 => by
  have := z6s 0 0 1 [] 1 5 (by simp) (by omega) (by omega) st ⟨h0, h1⟩
  have e : q6j (k5i 0 0 1 [] 1 5) = false := by decide +kernel
  rw [e] at this
  exact Rets.args (qs := [.int 0, .int 0, .int 1, q5k false [], .int 1, .int 5]) ⟨.refl _, .refl _, .refl _, .nil0, .refl _, .refl _, trivial⟩ this
 have c2 := fun st h0 h1 => j18 st ⟨h0, h1⟩
 have c3 : ∀ st, q5y st 0 = some (.arr T.t8uint32 Sha.start.row) → q5y st 1 = some q9i → Rets P F.q2g [ses2.pv] st (.tuple [.bool false, .int 0]) := fun st h0 h1 => by
  have := k0v ses2 L2 st ⟨h0, h1⟩
  have e : q6l ses2 = false := by decide +kernel
  rw [q91, e, if_pos rfl] at this
  exact this
 have c4 := fun st h0 h1 => y6x L2 (by decide) (by decide) (by decide) j75 st h0 h1 (z9a 3 0)
 have c5 := fun st h0 h1 => j78 L2 (by decide) (by decide) (by decide) y18 st h0 h1 (z9a 1 5)
 have c6 := fun st h0 h1 => k1e ses2L L2L (by decide) st ⟨h0, h1⟩
 rw [j5i, show q6j ses2L = true by decide +kernel, if_pos rfl] at c6
 have c7 := fun st h0 h1 => z45 st ⟨h0, h1⟩
 have c8 := fun st h0 h1 => j78 L2 (by decide) (by decide) (by decide) j5f st h0 h1 (j5k card9)
 have c9 := fun st h0 h1 => j78 L9 (by decide) (by decide) (by decide) j5g st h0 h1 (z9a 1 6)
 have c10 := fun st h0 h1 => j78 L9L (by decide) (by decide) (by decide) j5h st h0 h1 y19
 have c11 := fun st h0 h1 => k1e sesN LN (by decide) st ⟨h0, h1⟩
 rw [j5j, (q61 _).2 z3g, if_pos rfl] at c11
 have c12 : ∀ st, q5y st 0 = some (.arr T.t8uint32 Sha.start.row) → q5y st 1 = some q9i → Rets P F.q1p [.agg [.int 0, .int 0, .int 0, .nil, .int 0, .int 0, .int 0, .nil, .nil, .nil]] st (.int 360) := fun st h0 h1 => by
  have := q9z zeroSes k5k st ⟨h0, h1⟩
  rw [show q6j zeroSes = false by decide +kernel] at this
  exact Rets.args (qs := [zeroSes.pv]) ⟨q8b, trivial⟩ this
 have c13 : ∀ st, q5y st 0 = some (.arr T.t8uint32 Sha.start.row) → q5y st 1 = some q9i → Rets P F.q1p [ses2.pv] st (.int 0) := fun st h0 h1 => by
  have := q9z ses2 L2 st ⟨h0, h1⟩
  rw [q91, if_pos rfl] at this
  exact this
 have c14 : ∀ st, Rets P F.q09 [Opd.lst false [⟨3, []⟩, ⟨3, []⟩], .list true [.int 3, .nil, .int 3, .nil] 2] st (.bool true) := fun st =>
  Rets.args (qs := [Opd.lst false [⟨3, []⟩, ⟨3, []⟩], Opd.lst true [⟨3, []⟩, ⟨3, []⟩]]) ⟨.refl _, .lists ⟨.refl _, .nil1, .refl _, .nil1, trivial⟩, trivial⟩ (k1d false true _ (by simp) (by simp) st)
 have c15 : ∀ st, Rets P F.q09 [Opd.lst false [⟨1, [9]⟩, ⟨3, []⟩], .list true [.int 1, .list true [.int 9] 1, .int 3, .nil] 2] st (.bool true) := fun st =>
  Rets.args (qs := [Opd.lst false [⟨1, [9]⟩, ⟨3, []⟩], Opd.lst true [⟨1, [9]⟩, ⟨3, []⟩]]) ⟨.refl _, .lists ⟨.refl _, .loose, .refl _, .nil1, trivial⟩, trivial⟩ (k1d false true _ (by simp) (by simp) st)
 simp only [List.cons_append, List.nil_append, List.tail_cons] at c4 c5 c8 c9 c10
 generalize Opd.lst false [⟨3, []⟩, ⟨3, []⟩] = O1 at *
 generalize Opd.lst false [⟨1, [9]⟩, ⟨3, []⟩] = O2 at *
 clear hG L2 L2L L9 L9L LN
 refine H.q25.view q5n rfl rfl ?_
 repeat' (first 
  | (with_reducible refine Fresh.intro fun b hb => ?_) <;> (try simp -dsimp -implicitDefEqProofs [*] at hb)
  | (with_reducible refine Rets.xcall (c1 _ (by simp [*]) (by simp [*])) ?_)
  | (with_reducible refine Rets.xcall (c2 _ (by simp [*]) (by simp [*])) ?_)
  | (with_reducible refine Rets.xcall (c3 _ (by simp [*]) (by simp [*])) ?_)
  | (with_reducible refine Rets.xcall (c4 _ (by simp [*]) (by simp [*])) ?_)
  | (with_reducible refine Rets.xcall (c5 _ (by simp [*]) (by simp [*])) ?_)
  | (with_reducible refine Rets.xcall (c6 _ (by simp [*]) (by simp [*])) ?_)
  | (with_reducible refine Rets.xcall (c7 _ (by simp [*]) (by simp [*])) ?_)
  | (with_reducible refine Rets.xcall (c8 _ (by simp [*]) (by simp [*])) ?_)
  | (with_reducible refine Rets.xcall (c9 _ (by simp [*]) (by simp [*])) ?_)
  | (with_reducible refine Rets.xcall (c10 _ (by simp [*]) (by simp [*])) ?_)
  | (with_reducible refine Rets.xcall (c11 _ (by simp [*]) (by simp [*])) ?_)
  | (with_reducible refine Rets.xcall (c12 _ (by simp [*]) (by simp [*])) ?_)
  | (with_reducible refine Rets.xcall (c13 _ (by simp [*]) (by simp [*])) ?_)
  | (with_reducible refine Rets.xcall (c14 _) ?_)
  | (with_reducible refine Rets.xcall (c15 _) ?_)
  | (with_reducible refine Lit.imm ?_)
  | (simp -dsimp -implicitDefEqProofs [*]))
 exact RetView.drop (st' := st) q5p ⟨rfl, rfl⟩
open Go.Pv
set_option maxRecDepth 100000
set_option maxHeartbeats 16000000
theorem y2a {α : Type} {l : List α} {i : Nat} {x y : α} (h : y ∈ ins l i x) : y ∈ l ∨ y = x := by
 unfold ins at h
 rw [List.mem_append, List.mem_cons] at h
 rcases h with h | h | h
 ·exact .inl (List.mem_of_mem_take h)
 ·exact .inr h
 ·exact .inl (List.mem_of_mem_drop h)
theorem j0j {α : Type} {d : α → Int} {sm : α → Bool} {l l' : List α} {x y : α} (hp : k5o d sm l x = some l') (h : y ∈ l') : y ∈ l ∨ y = x := by
 unfold k5o at hp
 split at hp
 ·split at hp
  ·split at hp
   ·cases hp; exact .inl h
   ·cases hp
  ·cases hp
 ·cases hp; exact y2a h
theorem k9f {s : Ses} {x : Card} {l : List Card} (h : q86 s x = .inl l) : y3z s x = some l := by
 unfold q86 at h
 split at h
 ·cases h
 split at h
 ·split at h
  ·rename_i m e
   rw [e, Sum.inl.inj h]
  ·cases h
 ·cases h
theorem z6z {s : Ses} {x : Sh} {l : List Sh} (h : q9h s x = .inl l) : y30 s x = some l := by
 unfold q9h at h
 split at h
 ·split at h
  ·split at h
   ·rename_i m e
    rw [e, Sum.inl.inj h]
   ·cases h
  ·cases h
 ·cases h
theorem j0k {s : Ses} {x : Shn} {l : List Shn} (h : k26 s x = .inl l) : y6o s x = some l := by
 unfold k26 at h
 split at h
 ·split at h
  ·split at h
   ·rename_i m e
    rw [e, Sum.inl.inj h]
   ·cases h
  ·cases h
 ·cases h
theorem z47 {s : Ses} (hL : s.Len) (h1 : s.sealed.length ≤ 1000) (h2 : s.keys.length ≤ 1000) (h3 : s.shown.length ≤ 1000) {a : Act} (ha : a.card.c.length ≤ 100000) (ha2 : a.shown.k.length ≤ 100000) : (doS s a).Len := by
 unfold doS
 cases h : doR s a with
 | inr e => exact k5k
 | inl x =>
  cases (z3c h).2 with
  | dPass _ _ => exact ⟨hL.judges, hL.sealed, hL.keys, hL.shown, hL.cards, hL.given, hL.crits, hL.need⟩
  | dSeal _ hp =>
   have hp := k9f hp
   refine ⟨hL.judges, ?_, hL.keys, hL.shown, fun y hy => ?_, hL.given, hL.crits, hL.need⟩
   ·have := k1p hp
    exact Nat.le_trans this (by omega)
   ·rcases j0j hp hy with k | k
    ·exact hL.cards y k
    ·rw [k]; exact ha
  | dShare _ hp =>
   have hp := z6z hp
   refine ⟨hL.judges, hL.sealed, ?_, hL.shown, hL.cards, hL.given, hL.crits, hL.need⟩
   have := k1p hp
   exact Nat.le_trans this (by omega)
  | dShow _ hp =>
   have hp := j0k hp
   refine ⟨hL.judges, hL.sealed, hL.keys, ?_, hL.cards, fun y hy => ?_, hL.crits, hL.need⟩
   ·have := k1p hp
    exact Nat.le_trans this (by omega)
   ·rcases j0j hp hy with k | k
    ·exact hL.given y k
    ·rw [k]; exact ha2
theorem y8l {s : Ses} (hL : s.Len) : (k5i s.round s.entry s.crits s.judges s.need s.deadline).Len :=
 ⟨hL.judges, by simp [k5i], by simp [k5i], by simp [k5i], by simp [k5i], by simp [k5i], hL.crits, hL.need⟩
structure Wide (s : Ses) : Prop where
 c : -9223372036854775808 ≤ s.crits ∧ s.crits < 9223372036854775808
 n : -9223372036854775808 ≤ s.need ∧ s.need < 9223372036854775808
theorem z04 {c k : List Int} : (q65 c k).length ≤ c.length := by simp [q65]; omega
theorem z60 {s : Ses} (hL : s.Len) (j : Int) : (q6m s j).marks.length ≤ 100000 := by
 unfold q6m
 split
 ·split
  ·simp
  ·rename_i x hx
   have hxc := hL.cards x (j0f hx).2
   split
   ·show ((q9j x _).getD []).length ≤ 100000
    unfold q9j k4k
    split
    ·exact Nat.le_trans z04 hxc
    ·simp
   ·split
    ·rename_i m hm
     unfold k31 at hm
     split at hm
     ·cases hm
     ·unfold q8q at hm
      split at hm
      ·cases hm
       exact Nat.le_trans z04 hxc
      ·cases hm
    ·split <;> simp
 ·simp
theorem y6y {s : Ses} (hL : s.Len) : (q71 s).length ≤ 100000 ∧ ∀ x ∈ q71 s, x.marks.length ≤ 9223372036854775807 := by
 unfold q71
 split
 ·refine ⟨by rw [List.length_map]; exact hL.judges, fun x hx => ?_⟩
  obtain ⟨j, -, rfl⟩ := List.mem_map.1 hx
  have := z60 hL j
  omega
 ·exact ⟨by simp, fun x hx => by cases hx⟩
set_option maxRecDepth 100000
set_option maxHeartbeats 4000000
open Go.ChangeShapes Go.WideShapes Go.ChangeAt Go.RowKit Go.Pv
theorem own : ownKnob Tryz.prog.godebug = none := by kernel_rfl
theorem k33 : laidOutB Tryz.prog = true := by kernel_rfl
abbrev z05 : List (String × DataW Unit) := [("podium/digest.start", Rows.laid_podium_digest_start), ("podium/digest.numbers", Rows.laid_podium_digest_numbers)]
def startL : List Int := [1779033703, 3144134277, 1013904242, 2773480762, 1359893119, 2600822924, 528734635, 1541459225]
def numsL : List Int := [1116352408, 1899447441, 3049323471, 3921009573, 961987163, 1508970993, 2453635748, 2870763221, 3624381080, 310598401, 607225278, 1426881987, 1925078388, 2162078206, 2614888103, 3248222580, 3835390401, 4022224774, 264347078, 604807628, 770255983, 1249150122, 1555081692, 1996064986, 2554220882, 2821834349, 2952996808, 3210313671, 3336571891, 3584528711, 113926993, 338241895, 666307205, 773529912, 1294757372, 1396182291, 1695183700, 1986661051, 2177026350, 2456956037, 2730485921, 2820302411, 3259730800, 3345764771, 3516065817, 3600352804, 4094571909, 275423344, 430227734, 506948616, 659060556, 883997877, 958139571, 1322822218, 1537002063, 1747873779, 1955562222, 2024104815, 2227730452, 2361852424, 2428436474, 2756734187, 3204031479, 3329325298]
def gl36 : Glob := [(0, T.t8uint32, startL.map (Value.int .u32)), (1, T.t64uint32, numsL.map (Value.int .u32))]
theorem gStart : Tryz.prog.globalNamed "podium/digest.start" = some 0 := by kernel_rfl
theorem gNums : Tryz.prog.globalNamed "podium/digest.numbers" = some 1 := by kernel_rfl
theorem tStart : (Tryz.prog.globals[0]?).map (·.type) = some T.t8uint32 := by kernel_rfl
theorem tNums : (Tryz.prog.globals[1]?).map (·.type) = some T.t64uint32 := by kernel_rfl
theorem y6z : ((((begin Tryz.prog (fun _ _ => 0) default).world.heap[0]?).bind Obj.row?).map fun r => (r.1.toList, r.2)) = some (List.replicate 8 (Value.int .u32 0), T.t8uint32) := by kernel_rfl
theorem y95 : ((((begin Tryz.prog (fun _ _ => 0) default).world.heap[1]?).bind Obj.row?).map fun r => (r.1.toList, r.2)) = some (List.replicate 64 (Value.int .u32 0), T.t64uint32) := by kernel_rfl
theorem z48 (os : Os) (args : Array Value) : laidMetH Tryz.prog z05 ((World.doorLaid Tryz.prog 4000 os).forCall (fun _ _ => 0) ⟨#[], args, []⟩).memory :=
 laidMetH_of_parts3 (fuel := 8) (laidMet_of_run' 8 (by kernel_rfl) (by kernel_rfl)) (by kernel_rfl) (by kernel_rfl)
theorem y96 {W : World} (hsh : W.ShapedOpen Tryz.prog) (h : laidMetH Tryz.prog z05 W) : gl36.In W := by
 rw [MakeChecks.laidMetH_plain _ _ _ (by kernel_rfl)] at h
 obtain ⟨ps, ⟨g0, t0, cs0, f0, p0, q0, hg0, ht0, hv0, hd0, ⟨g1, t1, cs1, f1, p1, q1, hg1, ht1, hv1, hd1, _, _⟩, _⟩, _, _⟩ := h
 obtain rfl := Option.some.inj (gStart.symm.trans hg0)
 obtain rfl := Option.some.inj (gNums.symm.trans hg1)
 obtain rfl := Option.some.inj (tStart.symm.trans ht0)
 obtain rfl := Option.some.inj (tNums.symm.trans ht1)
 have b0 := z2o hsh (of_decide_eq_true (by kernel_rfl)) y6z gStart hv0
 have b1 := z2o hsh (of_decide_eq_true (by kernel_rfl)) y95 gNums hv1
 have e0 : cs0.toList = startL.map (Value.int .u32) := z6a (k := .u32) (e := T.uint32) (n := 8) (by kernel_rfl) (by kernel_rfl) (by kernel_rfl) (by kernel_rfl) hd0
 have e1 : cs1.toList = numsL.map (Value.int .u32) := z6a (k := .u32) (e := T.uint32) (n := 64) (by kernel_rfl) (by kernel_rfl) (by kernel_rfl) (by kernel_rfl) hd1
 have ok : ∀ l : List Int, ∀ v ∈ l.map (Value.int .u32), v.oneCell' = true := fun l v hv => by
  obtain ⟨n, -, rfl⟩ := List.mem_map.1 hv; rfl
 intro b T us hm
 simp only [gl36, List.mem_cons, List.not_mem_nil, or_false, Prod.mk.injEq] at hm
 rcases hm with ⟨rfl, rfl, rfl⟩ | ⟨rfl, rfl, rfl⟩
 ·exact ⟨by rw [b0, ← e0], ok _⟩
 ·exact ⟨by rw [b1, ← e1], ok _⟩
theorem y97 {W : World} (h : gl36.In W) : Off W gl36 fun c => ∃ n, c = .int .u32 n := by
 intro b off c hb hc
 obtain ⟨⟨b', T, us⟩, hm, he⟩ := List.any_eq_true.1 hb
 obtain rfl : b' = b := by simpa using he
 obtain ⟨arr, T', fz, g1, g2⟩ := k49 hc
 rw [(h _ _ _ hm).1] at g1
 cases g1
 have hu : c ∈ us := by
  have := List.mem_of_getElem? (l := us) (i := off) (a := c) (by simpa using g2)
  exact this
 simp only [gl36, List.mem_cons, List.not_mem_nil, or_false, Prod.mk.injEq] at hm
 rcases hm with ⟨-, -, rfl⟩ | ⟨-, -, rfl⟩ <;> (obtain ⟨n, -, rfl⟩ := List.mem_map.1 hu; exact ⟨n, rfl⟩)
theorem j5l : q5y (k1l gl36) 0 = some (.arr T.t8uint32 Sha.start.row) := by kernel_rfl
theorem j5m : q5y (k1l gl36) 1 = some q9i := by kernel_rfl
theorem wf_u8 {n : Int} (h : (Lit.int .u8 n).wf = true) : 0 ≤ n ∧ n < 256 := by
 simp [Lit.wf, IntKind.min, IntKind.max, IntKind.bits, IntKind.signed] at h
 omega
theorem j79 {I : Imm} {t : Bool} {cs : List PV} {n : Nat} {v : Value} (h : vrep I (.list t cs n) v) : n ≤ 9223372036854775807 := by
 have := z6b _ _ h
 simp only [PV.wide] at this
 exact this.1
section
variable {H : Type} {enc : TypeId × Value → H} {W : World} {base : Nat} {spare : Nat → Bool} {held : Bool}
theorem z49 (hg : gl36.In W) {A : Type} {e : TypeId} {k : Nat} {row : A → List PV} {ok : A → Prop} (hE : Opens enc Tryz.prog W base spare held gl36 e k row ok)
  (hr : ∀ a, ∃ q rest, row a = q :: rest ∧ ∀ v n, vrep (z75 W gl36) q v → v ≠ .int .u32 n) : OffE enc Tryz.prog W base spare held gl36 e := fun b off fuel cs y hb hc hy => by
 obtain ⟨a, -, hv, -⟩ := hE.op hy
 obtain ⟨q, rest, e1, e2⟩ := hr a
 rw [e1] at hv
 cases cs with
 | nil => simp [vcells] at hv
 | cons c cs =>
  simp only [vcells] at hv
  have h0 := hc 0 (by simp)
  rw [Nat.add_zero] at h0
  obtain ⟨n, hn⟩ := y97 hg b off c hb h0
  exact e2 c n hv.1.1 hn
theorem j0l {I : Imm} {m : Int} : ∀ v n, vrep I (.int m) v → v ≠ .int .u32 n := fun v n h e => by
 simp only [vrep] at h
 rw [h] at e
 cases e
theorem q9k : Opens enc Tryz.prog W base spare held gl36 3 1 (fun n : Int => [.int n]) I64 := Opens.i64 Tryz.underlying3 (by kernel_rfl)
theorem z5a (hg : gl36.In W) : Opens enc Tryz.prog W base spare held gl36 22 1 (fun l : List Int => [q5k false l]) (fun _ => True) :=
 (Opens.slice (z49 hg q9k fun n => ⟨_, _, rfl, j0l⟩) Tryz.underlying22 (by kernel_rfl) (by decide) q9k).conv id (fun l => by rw [Go.Pv.ints_flat]; rfl) (fun _ _ => trivial)
theorem j9p : Opens enc Tryz.prog W base spare held gl36 29 32 (fun d : Dig => q5f d.1) (fun _ => True) :=
 ⟨by kernel_rfl, fun {fuel cs y} h => by
  obtain ⟨l, hl, hc⟩ := z76 Tryz.underlying29 Tryz.underlying5 (by kernel_rfl) (by kernel_rfl) h
  refine ⟨⟨l, hl⟩, trivial, ?_, by rw [hc, List.length_map, hl]⟩
  rw [hc]
  have := k5a (z75 W gl36) (l.map fun b => Value.int .u8 b.toNat) (fun v hv => by obtain ⟨n, -, rfl⟩ := List.mem_map.1 hv; rfl)
  rwa [List.map_map] at this⟩
theorem z06 (hg : gl36.In W) : Opens enc Tryz.prog W base spare held gl36 31 36 (fun x : Card => x.enc) (fun _ => True) :=
 (Opens.struct Tryz.underlying31 (by kernel_rfl) (.cons rfl q9k (.cons rfl q9k (.cons rfl q9k (.cons rfl (z5a hg) (.cons rfl j9p .nil)))))).conv (fun x => ⟨x.1, x.2.1, x.2.2.1, x.2.2.2.1, x.2.2.2.2.1⟩) (fun x => by simp [Card.enc]) (fun _ _ => trivial)
theorem j8a (hg : gl36.In W) : Opens enc Tryz.prog W base spare held gl36 23 1 (fun l : List Card => [Card.lst false l]) (fun _ => True) :=
 (Opens.slice (z49 hg (z06 hg) fun x => ⟨_, _, rfl, j0l⟩) Tryz.underlying23 (by kernel_rfl) (by decide) (z06 hg)).conv id (fun _ => rfl) (fun _ _ => trivial)
theorem z5b : Opens enc Tryz.prog W base spare held gl36 33 4 (fun x : Sh => x.enc) (fun _ => True) :=
 (Opens.struct Tryz.underlying33 (by kernel_rfl) (.cons rfl q9k (.cons rfl q9k (.cons rfl q9k (.cons rfl q9k .nil))))).conv (fun x => ⟨x.1, x.2.1, x.2.2.1, x.2.2.2.1⟩) (fun _ => rfl) (fun _ _ => trivial)
theorem j5n (hg : gl36.In W) : Opens enc Tryz.prog W base spare held gl36 24 1 (fun l : List Sh => [Sh.lst false l]) (fun _ => True) :=
 (Opens.slice (z49 hg z5b fun x => ⟨_, _, rfl, j0l⟩) Tryz.underlying24 (by kernel_rfl) (by decide) z5b).conv id (fun _ => rfl) (fun _ _ => trivial)
theorem j5o (hg : gl36.In W) : Opens enc Tryz.prog W base spare held gl36 35 34 (fun x : Shn => x.enc) (fun _ => True) :=
 (Opens.struct Tryz.underlying35 (by kernel_rfl) (.cons rfl q9k (.cons rfl (z5a hg) (.cons rfl j9p .nil)))).conv (fun x => ⟨x.1, x.2.1, x.2.2.1⟩) (fun x => by simp [Shn.enc]) (fun _ _ => trivial)
theorem y2b (hg : gl36.In W) : Opens enc Tryz.prog W base spare held gl36 25 1 (fun l : List Shn => [Shn.lst false l]) (fun _ => True) :=
 (Opens.slice (z49 hg (j5o hg) fun x => ⟨_, _, rfl, j0l⟩) Tryz.underlying25 (by kernel_rfl) (by decide) (j5o hg)).conv id (fun _ => rfl) (fun _ _ => trivial)
theorem j5p (hg : gl36.In W) : Opens enc Tryz.prog W base spare held gl36 27 10 (fun x : Ses => x.enc) Wide :=
 (Opens.struct Tryz.underlying27 (by kernel_rfl) (.cons rfl q9k (.cons rfl q9k (.cons rfl q9k (.cons rfl (z5a hg) (.cons rfl q9k (.cons rfl q9k (.cons rfl q9k (.cons rfl (j8a hg) (.cons rfl (j5n hg) (.cons rfl (y2b hg) .nil))))))))))).conv
  (fun x => ⟨x.1, x.2.1, x.2.2.1, x.2.2.2.1, x.2.2.2.2.1, x.2.2.2.2.2.1, x.2.2.2.2.2.2.1, x.2.2.2.2.2.2.2.1, x.2.2.2.2.2.2.2.2.1, x.2.2.2.2.2.2.2.2.2.1⟩) (fun x => by simp [Ses.enc]) (fun x h => ⟨⟨h.2.2.1.1, Int.lt_of_le_of_lt h.2.2.1.2 (by decide)⟩, ⟨h.2.2.2.2.1.1, Int.lt_of_le_of_lt h.2.2.2.2.1.2 (by decide)⟩⟩)
theorem j9q (hg : gl36.In W) : Opens enc Tryz.prog W base spare held gl36 37 76 (fun x : Act => x.enc) (fun _ => True) :=
 (Opens.struct Tryz.underlying37 (by kernel_rfl) (.cons rfl q9k (.cons rfl q9k (.cons rfl (z06 hg) (.cons rfl z5b (.cons rfl (j5o hg) .nil)))))).conv (fun x => ⟨x.1, x.2.1, x.2.2.1, x.2.2.2.1, x.2.2.2.2.1⟩) (fun x => by simp [Act.enc]) (fun _ _ => trivial)
end
end Go.Proofs.YtnooplpbpfiapaaGreatDoor
