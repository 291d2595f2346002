/- What was sealed is opened by its keys: plain. -/
import Derived.Test.YtnooplpbpfiapaaGreatDoorG36CA
import Derived.Test.YtnooplpbpfiapaaGreatDoorG36AG
import Derived.Test.YtnooplpbpfiapaaGreatDoorLBx
import Derived.Test.YtnooplpbpfiapaaGreatDoorG36BR
import Derived.Test.YtnooplpbpfiapaaGreatDoorRows
import Derived.Test.YtnooplpbpfiapaaGreatDoorCards
import Derived.Test.YtnooplpbpfiapaaGreatDoorTie
import Derived.WalkKit
import Derived.ProofKit
import Derived.OpenShut
import Derived.ChangeOld
import Derived.Below
import Derived.LaidMore
import Derived.SevenTiedAt
import Derived.Stop.Joined
import Derived.Test.YtnooplpbpfiapaaGreatDoorLRd
import Derived.Test.YtnooplpbpfiapaaGreatDoorLBr
import Derived.SizedLaws
namespace Go.Proofs.YtnooplpbpfiapaaGreatDoor
open Go.Pv Go.Pv.Sha
set_option maxRecDepth 100000
theorem j35 {x y : Int} (hx : 0 ≤ x) (hx2 : x ≤ 1000) (hy : 0 ≤ y) (hy2 : y ≤ 1073741788) : z3l ((x + y) % QI) y = x := by
 unfold z3l QI
 split <;> omega
theorem j6y {l : List Int} {most : Int} (h1 : 1 ≤ l.length) (h2 : l.length ≤ 64) (h3 : ∀ x ∈ l, 0 ≤ x ∧ x ≤ most) : q61 l most = true := by
 unfold q61
 simp only [Bool.and_eq_true, decide_eq_true_eq, List.all_eq_true]
 exact ⟨⟨h1, h2⟩, fun x hx => by unfold wi; have := h3 x hx; simp [this.1, this.2]⟩
structure BackF (r e j : Int) (m k : List Int) (salt : List (BitVec 8)) : Prop where
 make : y64 r e j m k = true
 ope : k40 r e j (k1y m k) (j4u r e j m k salt) k salt = some m
 strip : q97 r e j (k1y m k) k = some m
 chk : chk r e j (k1y m k) = true
theorem j07 {r e j : Int} {m k : List Int} {salt : List (BitVec 8)} (hp : q7u r e j = true) (h1 : q61 m 1000 = true) (h2 : q61 k 1073741788 = true) (h3 : m.length = k.length) : BackF r e j m k salt := by
 have hb : q66 (k1y m k) k = m := by
  refine List.ext_getElem (by simp [q66, k1y, h3]) fun i hi hi2 => ?_
  have hik : i < k.length := by omega
  have b1 := q51 h1 _ (List.getElem_mem hi2)
  have b2 := q51 h2 _ (List.getElem_mem hik)
  simp only [q66, k1y, List.getElem_zipWith]
  exact j35 b1.1 b1.2 b2.1 b2.2
 have l1 := k1w h1
 have hl : (k1y m k).length = m.length := by simp [k1y, h3]
 have hc : q61 (k1y m k) 1073741788 = true := by
  refine j6y (by omega) (by omega) fun n hn => ?_
  obtain ⟨i, hi, rfl⟩ := List.mem_iff_getElem.1 hn
  simp only [k1y, List.getElem_zipWith]
  unfold QI
  omega
 have hk : Go.Proofs.YtnooplpbpfiapaaGreatDoor.chk r e j (k1y m k) = true := by simp [Go.Proofs.YtnooplpbpfiapaaGreatDoor.chk, hp, hc]
 have hbo : q6d r e j (k1y m k) k = true := by simp [q6d, hk, h2, hl, h3]
 refine ⟨by simp [y64, hp, h1, h2, h3], ?_, ?_, hk⟩
 ·unfold k40
  rw [hb, hbo, h1]
  simp
 ·unfold q97
  rw [hb, hbo, h1]
  simp
open Go.Pv
set_option maxRecDepth 100000
def y5g (k t : Int) : Act := ⟨k, t, default, default, default⟩
def ses2L : Ses := { ses2 with time := 5 }
def ses9 : Ses := { ses2 with sealed := [card9] }
def ses9L : Ses := { ses9 with time := 6 }
def shn9 : Shn := ⟨3, [1000], z72⟩
def sesN : Ses := { ses9L with shown := [shn9] }
theorem j6z : doR ses2 (y5g 3 0) = .inr 360 := by
 unfold doR
 rw [if_pos q9o]
 rfl
theorem y03 : doR ses2 (y5g 1 5) = .inl ses2L := Did.to q9o (.dPass rfl (by decide +kernel))
theorem j08 : q72 ses2 card9 = true := by decide +kernel
def actS : Act := ⟨2, 0, card9, default, default⟩
theorem j36 : doR ses2 actS = .inl ses9 := by
 refine Did.to q9o (.dSeal rfl ?_)
 unfold k0x
 rw [if_neg (by decide +kernel)]
 have : q72 ses2 actS.card = true := j08
 rw [if_pos this]
 rfl
theorem z2a : RightP ses9 := (z5w j36).2.right ((q7r _).1 q9o)
theorem j37 : doR ses9 (y5g 1 6) = .inl ses9L := Did.to ((q7r _).2 z2a) (.dPass rfl (by decide +kernel))
theorem z0a : RightP ses9L := (z5w j37).2.right z2a
theorem y5h : q92 card9 shn9 = some [9] := (j07 (r := 0) (e := 0) (j := 3) (m := [9]) (k := [1000]) (salt := z72.1) (by decide +kernel) (by decide +kernel) (by decide +kernel) rfl).ope
theorem z86 {s : Ses} (h : s.sealed = [card9]) : q8n s 3 = some card9 := by
 unfold q8n
 rw [h]
 rfl
theorem j60 {s : Ses} (h : s.sealed = [card9]) : q8n s 7 = none := by
 unfold q8n
 rw [h]
 rfl
def actN : Act := ⟨4, 0, default, default, shn9⟩
theorem j38 : doR ses9L actN = .inl sesN := by
 refine Did.to ((q7r _).2 z0a) (.dShow rfl ?_)
 unfold k35
 rw [if_pos (by decide +kernel), if_pos]
 ·rfl
 ·show q73 ses9L shn9 = true
  unfold q73
  have : q8n ses9L shn9.j = some card9 := z86 rfl
  rw [this]
  show (q92 card9 shn9).isSome = true
  rw [y5h]
  rfl
theorem z2b : RightP sesN := (z5w j38).2.right z0a
theorem j39 : k4h ses2L = [⟨3, []⟩, ⟨3, []⟩] := by decide +kernel
theorem j4a : k4h sesN = [⟨1, [9]⟩, ⟨3, []⟩] := by
 unfold k4h
 rw [if_pos ((q7r _).2 z2b)]
 show [q86 sesN 3, q86 sesN 7] = _
 have ho : q7h sesN = true := by decide +kernel
 have h1 := j6x (s := sesN) (j := 3) (x := card9) (y := shn9) ho (z86 rfl) rfl
 rw [y5h] at h1
 rw [h1, j06 ho (j60 rfl)]
 rfl
theorem y5i {s : Ses} (hj : s.judges = [3, 7]) (hc : s.crits = 1) (hn : s.need = 2) (hk : s.keys = []) (h1 : s.sealed = [] ∨ s.sealed = [card9]) (h2 : s.shown = [] ∨ s.shown = [shn9]) : s.Len where
 judges := by rw [hj]; decide
 sealed := by rcases h1 with h | h <;> rw [h] <;> decide
 keys := by rw [hk]; decide
 shown := by rcases h2 with h | h <;> rw [h] <;> decide
 cards := by
  rcases h1 with h | h <;> rw [h] <;> intro x hx
  ·cases hx
  ·rw [List.mem_singleton.1 hx]; decide
 given := by
  rcases h2 with h | h <;> rw [h] <;> intro x hx
  ·cases hx
  ·rw [List.mem_singleton.1 hx]; decide
 crits := by omega
 need := by omega
open Go.Pv
set_option maxRecDepth 100000
set_option maxHeartbeats 16000000
theorem z74 (k t : Int) : PsLe (.int k :: .int t :: (q7c ++ ([.int 0, .int 0, .int 0, .int 0] ++ (.int 0 :: .nil :: zz)))) (y5g k t).enc := by
 unfold y5g Act.enc
 refine ⟨.refl _, .refl _, PsLe.append ?_ (PsLe.append (PsLe.refl _) ?_)⟩
 ·exact ⟨.refl _, .refl _, .refl _, .nil1, PsLe.refl _⟩
 ·exact ⟨.refl _, .nil1, PsLe.refl _⟩
theorem k3n (A B C X : List PV) (h : X.length = B.length) : q5e (A ++ (B ++ C)) A.length X = A ++ (X ++ C) := by
 have := q5z X A (B ++ C) 0
 rw [Nat.add_zero] at this
 rw [this, q7j _ _ _ _ (by omega), q59 _ _ h]
theorem j61 (x : Card) : q5e (.int 2 :: .int 0 :: (q7c ++ ([.int 0, .int 0, .int 0, .int 0] ++ (.int 0 :: .nil :: zz)))) 2 x.enc = .int 2 :: .int 0 :: (x.enc ++ ([.int 0, .int 0, .int 0, .int 0] ++ (.int 0 :: .nil :: zz))) :=
 k3n [.int 2, .int 0] q7c ([.int 0, .int 0, .int 0, .int 0] ++ (.int 0 :: .nil :: zz)) x.enc (by simp)
theorem j4b (x : Card) : PsLe (q5e (.int 2 :: .int 0 :: (q7c ++ ([.int 0, .int 0, .int 0, .int 0] ++ (.int 0 :: .nil :: zz)))) 2 x.enc) (⟨2, 0, x, default, default⟩ : Act).enc := by
 rw [j61]
 unfold Act.enc
 refine ⟨.refl _, .refl _, PsLe.append (PsLe.refl _) (PsLe.append (PsLe.refl _) ?_)⟩
 exact ⟨.refl _, .nil1, PsLe.refl _⟩
theorem y04 : PsLe (.int 4 :: .int 0 :: (q7c ++ ([.int 0, .int 0, .int 0, .int 0] ++ (.int 3 :: .list true [.int 1000] 1 :: .val (.int .u8 1) :: zz.tail)))) actN.enc := by
 unfold actN Act.enc
 refine ⟨.refl _, .refl _, PsLe.append ?_ (PsLe.append (PsLe.refl _) ?_)⟩
 ·exact ⟨.refl _, .refl _, .refl _, .nil1, PsLe.refl _⟩
 ·exact ⟨.refl _, .loose, PsLe.refl _⟩
theorem j62 {s x : Ses} {a : Act} (hL : s.Len) (hc : a.card.c.length ≤ 100000) (hn : a.shown.k.length ≤ 100000) (hl : s.sealed.length ≤ 1000 ∧ s.keys.length ≤ 1000 ∧ s.shown.length ≤ 1000) (h : doR s a = .inl x) (st : q49) (h0 : q5s st 0 = some (.arr T.t8uint32 Sha.start.row)) (h1 : q5s st 1 = some q87) {L : List PV} (hle : PsLe L a.enc) : Rets P F.q2j [s.pv, .agg L] st (.tuple [x.pv, .int 0]) := by
 have := k6f s hL a hc hn hl st ⟨h0, h1⟩
 obtain ⟨e1, e2⟩ := j8i h
 rw [e1, e2] at this
 exact Rets.args (qs := [s.pv, a.pv]) ⟨.refl _, .aggs hle, trivial⟩ this
theorem y5j {s : Ses} {a : Act} {E : Int} (hL : s.Len) (hc : a.card.c.length ≤ 100000) (hn : a.shown.k.length ≤ 100000) (hl : s.sealed.length ≤ 1000 ∧ s.keys.length ≤ 1000 ∧ s.shown.length ≤ 1000) (h : doR s a = .inr E) (st : q49) (h0 : q5s st 0 = some (.arr T.t8uint32 Sha.start.row)) (h1 : q5s st 1 = some q87) {L : List PV} (hle : PsLe L a.enc) : Rets P F.q2j [s.pv, .agg L] st (.tuple [zeroSes.pv, .int E]) := by
 have := k6f s hL a hc hn hl st ⟨h0, h1⟩
 have e1 : doE s a = E := by unfold doE; rw [h]
 have e2 : doS s a = zeroSes := by unfold doS; rw [h]
 rw [e1, e2] at this
 exact Rets.args (qs := [s.pv, a.pv]) ⟨.refl _, .aggs hle, trivial⟩ this
theorem z0b (st : q49) (hG : GL st) : Rets P F.q3j [] st (.bool true) := by
 have hN := q6a hG.h0 hG.h1
 have h0 := hG.h0
 have h1 := hG.h1
 have L2 : ses2.Len := y5i rfl rfl rfl rfl (.inl rfl) (.inl rfl)
 have L2L : ses2L.Len := y5i rfl rfl rfl rfl (.inl rfl) (.inl rfl)
 have L9 : ses9.Len := y5i rfl rfl rfl rfl (.inr rfl) (.inl rfl)
 have L9L : ses9L.Len := y5i rfl rfl rfl rfl (.inr rfl) (.inl rfl)
 have LN : sesN.Len := y5i rfl rfl rfl rfl (.inr rfl) (.inr rfl)
 have c1 : ∀ st, q5s st 0 = some (.arr T.t8uint32 Sha.start.row) → q5s st 1 = some q87 → Rets P F.q37 [.int 0, .int 0, .int 1, .nil, .int 1, .int 5] st (.tuple [zeroSes.pv, .int 1]) := fun st h0 h1 => by
  have := z5n 0 0 1 [] 1 5 (by simp) (by omega) (by omega) st ⟨h0, h1⟩
  have e : q62 (z81 0 0 1 [] 1 5) = false := by decide +kernel
  rw [e] at this
  exact Rets.args (qs := [.int 0, .int 0, .int 1, q5f false [], .int 1, .int 5]) ⟨.refl _, .refl _, .refl _, .nil0, .refl _, .refl _, trivial⟩ this
 have c2 := fun st h0 h1 => j01 st ⟨h0, h1⟩
 have c3 : ∀ st, q5s st 0 = some (.arr T.t8uint32 Sha.start.row) → q5s st 1 = some q87 → Rets P F.q2z [ses2.pv] st (.tuple [.bool false, .int 0]) := fun st h0 h1 => by
  have := k32 ses2 L2 st ⟨h0, h1⟩
  have e : q7h ses2 = false := by decide +kernel
  rw [q9o, e, if_pos rfl] at this
  exact this
 have c4 := fun st h0 h1 => y5j L2 (by decide) (by decide) (by decide) j6z st h0 h1 (z74 3 0)
 have c5 := fun st h0 h1 => j62 L2 (by decide) (by decide) (by decide) y03 st h0 h1 (z74 1 5)
 have c6 := fun st h0 h1 => k48 ses2L L2L (by decide) st ⟨h0, h1⟩
 rw [j39, show q62 ses2L = true by decide +kernel, if_pos rfl] at c6
 have c7 := fun st h0 h1 => z33 st ⟨h0, h1⟩
 have c8 := fun st h0 h1 => j62 L2 (by decide) (by decide) (by decide) j36 st h0 h1 (j4b card9)
 have c9 := fun st h0 h1 => j62 L9 (by decide) (by decide) (by decide) j37 st h0 h1 (z74 1 6)
 have c10 := fun st h0 h1 => j62 L9L (by decide) (by decide) (by decide) j38 st h0 h1 y04
 have c11 := fun st h0 h1 => k48 sesN LN (by decide) st ⟨h0, h1⟩
 rw [j4a, (q7r _).2 z2b, if_pos rfl] at c11
 have c12 : ∀ st, q5s st 0 = some (.arr T.t8uint32 Sha.start.row) → q5s st 1 = some q87 → Rets P F.q15 [.agg [.int 0, .int 0, .int 0, .nil, .int 0, .int 0, .int 0, .nil, .nil, .nil]] st (.int 360) := fun st h0 h1 => by
  have := k0w zeroSes k46 st ⟨h0, h1⟩
  rw [show q62 zeroSes = false by decide +kernel] at this
  exact Rets.args (qs := [zeroSes.pv]) ⟨q8h, trivial⟩ this
 have c13 : ∀ st, q5s st 0 = some (.arr T.t8uint32 Sha.start.row) → q5s st 1 = some q87 → Rets P F.q15 [ses2.pv] st (.int 0) := fun st h0 h1 => by
  have := k0w ses2 L2 st ⟨h0, h1⟩
  rw [q9o, if_pos rfl] at this
  exact this
 have c14 : ∀ st, Rets P F.q1b [Opd.lst false [⟨3, []⟩, ⟨3, []⟩], .list true [.int 3, .nil, .int 3, .nil] 2] st (.bool true) := fun st =>
  Rets.args (qs := [Opd.lst false [⟨3, []⟩, ⟨3, []⟩], Opd.lst true [⟨3, []⟩, ⟨3, []⟩]]) ⟨.refl _, .lists ⟨.refl _, .nil1, .refl _, .nil1, trivial⟩, trivial⟩ (k3m false true _ (by simp) (by simp) st)
 have c15 : ∀ st, Rets P F.q1b [Opd.lst false [⟨1, [9]⟩, ⟨3, []⟩], .list true [.int 1, .list true [.int 9] 1, .int 3, .nil] 2] st (.bool true) := fun st =>
  Rets.args (qs := [Opd.lst false [⟨1, [9]⟩, ⟨3, []⟩], Opd.lst true [⟨1, [9]⟩, ⟨3, []⟩]]) ⟨.refl _, .lists ⟨.refl _, .loose, .refl _, .nil1, trivial⟩, trivial⟩ (k3m false true _ (by simp) (by simp) st)
 simp only [List.cons_append, List.nil_append, List.tail_cons] at c4 c5 c8 c9 c10
 generalize Opd.lst false [⟨3, []⟩, ⟨3, []⟩] = O1 at *
 generalize Opd.lst false [⟨1, [9]⟩, ⟨3, []⟩] = O2 at *
 clear hG L2 L2L L9 L9L LN
 refine H.q3j.view q5i rfl rfl ?_
 repeat' (first 
  | (with_reducible refine Fresh.intro fun b hb => ?_) <;> (try simp -dsimp -implicitDefEqProofs [*] at hb)
  | (with_reducible refine Rets.xcall (c1 _ (by simp [*]) (by simp [*])) ?_)
  | (with_reducible refine Rets.xcall (c2 _ (by simp [*]) (by simp [*])) ?_)
  | (with_reducible refine Rets.xcall (c3 _ (by simp [*]) (by simp [*])) ?_)
  | (with_reducible refine Rets.xcall (c4 _ (by simp [*]) (by simp [*])) ?_)
  | (with_reducible refine Rets.xcall (c5 _ (by simp [*]) (by simp [*])) ?_)
  | (with_reducible refine Rets.xcall (c6 _ (by simp [*]) (by simp [*])) ?_)
  | (with_reducible refine Rets.xcall (c7 _ (by simp [*]) (by simp [*])) ?_)
  | (with_reducible refine Rets.xcall (c8 _ (by simp [*]) (by simp [*])) ?_)
  | (with_reducible refine Rets.xcall (c9 _ (by simp [*]) (by simp [*])) ?_)
  | (with_reducible refine Rets.xcall (c10 _ (by simp [*]) (by simp [*])) ?_)
  | (with_reducible refine Rets.xcall (c11 _ (by simp [*]) (by simp [*])) ?_)
  | (with_reducible refine Rets.xcall (c12 _ (by simp [*]) (by simp [*])) ?_)
  | (with_reducible refine Rets.xcall (c13 _ (by simp [*]) (by simp [*])) ?_)
  | (with_reducible refine Rets.xcall (c14 _) ?_)
  | (with_reducible refine Rets.xcall (c15 _) ?_)
  | (with_reducible refine Lit.imm ?_)
  | (simp -dsimp -implicitDefEqProofs [*]))
 exact RetView.drop (st' := st) q5m ⟨rfl, rfl⟩
open Go.Pv
set_option maxRecDepth 100000
set_option maxHeartbeats 16000000
theorem y05 {α : Type} {l : List α} {i : Nat} {x y : α} (h : y ∈ ins l i x) : y ∈ l ∨ y = x := by
 unfold ins at h
 rw [List.mem_append, List.mem_cons] at h
 rcases h with h | h | h
 ·exact .inl (List.mem_of_mem_take h)
 ·exact .inr h
 ·exact .inl (List.mem_of_mem_drop h)
theorem z87 {α : Type} {d : α → Int} {sm : α → Bool} {l l' : List α} {x y : α} (hp : k6d d sm l x = some l') (h : y ∈ l') : y ∈ l ∨ y = x := by
 unfold k6d at hp
 split at hp
 ·split at hp
  ·split at hp
   ·cases hp; exact .inl h
   ·cases hp
  ·cases hp
 ·cases hp; exact y05 h
theorem z34 {s : Ses} {x : Card} {l : List Card} (h : k0x s x = .inl l) : y5c s x = some l := by
 unfold k0x at h
 split at h
 ·cases h
 split at h
 ·split at h
  ·rename_i m e
   rw [e, Sum.inl.inj h]
  ·cases h
 ·cases h
theorem j4c {s : Ses} {x : Sh} {l : List Sh} (h : k0y s x = .inl l) : y65 s x = some l := by
 unfold k0y at h
 split at h
 ·split at h
  ·split at h
   ·rename_i m e
    rw [e, Sum.inl.inj h]
   ·cases h
  ·cases h
 ·cases h
theorem j63 {s : Ses} {x : Shn} {l : List Shn} (h : k35 s x = .inl l) : y66 s x = some l := by
 unfold k35 at h
 split at h
 ·split at h
  ·split at h
   ·rename_i m e
    rw [e, Sum.inl.inj h]
   ·cases h
  ·cases h
 ·cases h
theorem z75 {s : Ses} (hL : s.Len) (h1 : s.sealed.length ≤ 1000) (h2 : s.keys.length ≤ 1000) (h3 : s.shown.length ≤ 1000) {a : Act} (ha : a.card.c.length ≤ 100000) (ha2 : a.shown.k.length ≤ 100000) : (doS s a).Len := by
 unfold doS
 cases h : doR s a with
 | inr e => exact k46
 | inl x =>
  cases (z5w h).2 with
  | dPass _ _ => exact ⟨hL.judges, hL.sealed, hL.keys, hL.shown, hL.cards, hL.given, hL.crits, hL.need⟩
  | dSeal _ hp =>
   have hp := z34 hp
   refine ⟨hL.judges, ?_, hL.keys, hL.shown, fun y hy => ?_, hL.given, hL.crits, hL.need⟩
   ·have := k6i hp
    exact Nat.le_trans this (by omega)
   ·rcases z87 hp hy with k | k
    ·exact hL.cards y k
    ·rw [k]; exact ha
  | dShare _ hp =>
   have hp := j4c hp
   refine ⟨hL.judges, hL.sealed, ?_, hL.shown, hL.cards, hL.given, hL.crits, hL.need⟩
   have := k6i hp
   exact Nat.le_trans this (by omega)
  | dShow _ hp =>
   have hp := j63 hp
   refine ⟨hL.judges, hL.sealed, hL.keys, ?_, hL.cards, fun y hy => ?_, hL.crits, hL.need⟩
   ·have := k6i hp
    exact Nat.le_trans this (by omega)
   ·rcases z87 hp hy with k | k
    ·exact hL.given y k
    ·rw [k]; exact ha2
structure Wide (s : Ses) : Prop where
 c : -9223372036854775808 ≤ s.crits ∧ s.crits < 9223372036854775808
 n : -9223372036854775808 ≤ s.need ∧ s.need < 9223372036854775808
set_option maxRecDepth 100000
set_option maxHeartbeats 4000000
open Go.ChangeShapes Go.WideShapes Go.ChangeAt Go.RowKit Go.Pv
theorem own : ownKnob Tryz.prog.godebug = none := by kernel_rfl
theorem k7f : laidOutB Tryz.prog = true := by kernel_rfl
abbrev z5x : List (String × DataW Unit) := [("podium/digest.start", Rows.laid_podium_digest_start), ("podium/digest.numbers", Rows.laid_podium_digest_numbers)]
def startL : List Int := [1779033703, 3144134277, 1013904242, 2773480762, 1359893119, 2600822924, 528734635, 1541459225]
def numsL : List Int := [1116352408, 1899447441, 3049323471, 3921009573, 961987163, 1508970993, 2453635748, 2870763221, 3624381080, 310598401, 607225278, 1426881987, 1925078388, 2162078206, 2614888103, 3248222580, 3835390401, 4022224774, 264347078, 604807628, 770255983, 1249150122, 1555081692, 1996064986, 2554220882, 2821834349, 2952996808, 3210313671, 3336571891, 3584528711, 113926993, 338241895, 666307205, 773529912, 1294757372, 1396182291, 1695183700, 1986661051, 2177026350, 2456956037, 2730485921, 2820302411, 3259730800, 3345764771, 3516065817, 3600352804, 4094571909, 275423344, 430227734, 506948616, 659060556, 883997877, 958139571, 1322822218, 1537002063, 1747873779, 1955562222, 2024104815, 2227730452, 2361852424, 2428436474, 2756734187, 3204031479, 3329325298]
def gl36 : Glob := [(0, T.t8uint32, startL.map (Value.int .u32)), (1, T.t64uint32, numsL.map (Value.int .u32))]
theorem gStart : Tryz.prog.globalNamed "podium/digest.start" = some 0 := by kernel_rfl
theorem gNums : Tryz.prog.globalNamed "podium/digest.numbers" = some 1 := by kernel_rfl
theorem tStart : (Tryz.prog.globals[0]?).map (·.type) = some T.t8uint32 := by kernel_rfl
theorem tNums : (Tryz.prog.globals[1]?).map (·.type) = some T.t64uint32 := by kernel_rfl
theorem y5k : ((((begin Tryz.prog (fun _ _ => 0) default).world.heap[0]?).bind Obj.row?).map fun r => (r.1.toList, r.2)) = some (List.replicate 8 (Value.int .u32 0), T.t8uint32) := by kernel_rfl
theorem y8n : ((((begin Tryz.prog (fun _ _ => 0) default).world.heap[1]?).bind Obj.row?).map fun r => (r.1.toList, r.2)) = some (List.replicate 64 (Value.int .u32 0), T.t64uint32) := by kernel_rfl
theorem z88 (os : Os) (args : Array Value) : laidMetH Tryz.prog z5x ((World.doorLaid Tryz.prog 4000 os).forCall (fun _ _ => 0) ⟨#[], args, []⟩).memory :=
 laidMetH_of_parts3 (fuel := 8) (laidMet_of_run' 8 (by kernel_rfl) (by kernel_rfl)) (by kernel_rfl) (by kernel_rfl)
theorem in36 {W : World} (hsh : W.ShapedOpen Tryz.prog) (h : laidMetH Tryz.prog z5x W) : gl36.In W := by
 rw [MakeChecks.laidMetH_plain _ _ _ (by kernel_rfl)] at h
 obtain ⟨ps, ⟨g0, t0, cs0, f0, p0, q0, hg0, ht0, hv0, hd0, ⟨g1, t1, cs1, f1, p1, q1, hg1, ht1, hv1, hd1, _, _⟩, _⟩, _, _⟩ := h
 obtain rfl := Option.some.inj (gStart.symm.trans hg0)
 obtain rfl := Option.some.inj (gNums.symm.trans hg1)
 obtain rfl := Option.some.inj (tStart.symm.trans ht0)
 obtain rfl := Option.some.inj (tNums.symm.trans ht1)
 have b0 := z1v hsh (of_decide_eq_true (by kernel_rfl)) y5k gStart hv0
 have b1 := z1v hsh (of_decide_eq_true (by kernel_rfl)) y8n gNums hv1
 have e0 : cs0.toList = startL.map (Value.int .u32) := z47 (k := .u32) (e := T.uint32) (n := 8) (by kernel_rfl) (by kernel_rfl) (by kernel_rfl) (by kernel_rfl) hd0
 have e1 : cs1.toList = numsL.map (Value.int .u32) := z47 (k := .u32) (e := T.uint32) (n := 64) (by kernel_rfl) (by kernel_rfl) (by kernel_rfl) (by kernel_rfl) hd1
 have ok : ∀ l : List Int, ∀ v ∈ l.map (Value.int .u32), v.oneCell' = true := fun l v hv => by
  obtain ⟨n, -, rfl⟩ := List.mem_map.1 hv; rfl
 intro b T us hm
 simp only [gl36, List.mem_cons, List.not_mem_nil, or_false, Prod.mk.injEq] at hm
 rcases hm with ⟨rfl, rfl, rfl⟩ | ⟨rfl, rfl, rfl⟩
 ·exact ⟨by rw [b0, ← e0], ok _⟩
 ·exact ⟨by rw [b1, ← e1], ok _⟩
theorem y8o {W : World} (h : gl36.In W) : Off W gl36 fun c => ∃ n, c = .int .u32 n := by
 intro b off c hb hc
 obtain ⟨⟨b', T, us⟩, hm, he⟩ := List.any_eq_true.1 hb
 obtain rfl : b' = b := by simpa using he
 obtain ⟨arr, T', fz, g1, g2⟩ := k4v hc
 rw [(h _ _ _ hm).1] at g1
 cases g1
 have hu : c ∈ us := by
  have := List.mem_of_getElem? (l := us) (i := off) (a := c) (by simpa using g2)
  exact this
 simp only [gl36, List.mem_cons, List.not_mem_nil, or_false, Prod.mk.injEq] at hm
 rcases hm with ⟨-, -, rfl⟩ | ⟨-, -, rfl⟩ <;> (obtain ⟨n, -, rfl⟩ := List.mem_map.1 hu; exact ⟨n, rfl⟩)
theorem j8j : q5s (k04 gl36) 0 = some (.arr T.t8uint32 Sha.start.row) := by kernel_rfl
theorem j8k : q5s (k04 gl36) 1 = some q87 := by kernel_rfl
theorem j64 {I : Imm} {t : Bool} {cs : List PV} {n : Nat} {v : Value} (h : vrep I (.list t cs n) v) : n ≤ 9223372036854775807 := by
 have := z48 _ _ h
 simp only [PV.wide] at this
 exact this.1
section
variable {H : Type} {enc : TypeId × Value → H} {W : World} {base : Nat} {spare : Nat → Bool} {held : Bool}
theorem z35 (hg : gl36.In W) {A : Type} {e : TypeId} {k : Nat} {row : A → List PV} {ok : A → Prop} (hE : Opens enc Tryz.prog W base spare held gl36 e k row ok)
  (hr : ∀ a, ∃ q rest, row a = q :: rest ∧ ∀ v n, vrep (z62 W gl36) q v → v ≠ .int .u32 n) : OffE enc Tryz.prog W base spare held gl36 e := fun b off fuel cs y hb hc hy => by
 obtain ⟨a, -, hv, -⟩ := hE.op hy
 obtain ⟨q, rest, e1, e2⟩ := hr a
 rw [e1] at hv
 cases cs with
 | nil => simp [vcells] at hv
 | cons c cs =>
  simp only [vcells] at hv
  have h0 := hc 0 (by simp)
  rw [Nat.add_zero] at h0
  obtain ⟨n, hn⟩ := y8o hg b off c hb h0
  exact e2 c n hv.1.1 hn
theorem z89 {I : Imm} {m : Int} : ∀ v n, vrep I (.int m) v → v ≠ .int .u32 n := fun v n h e => by
 simp only [vrep] at h
 rw [h] at e
 cases e
theorem q89 : Opens enc Tryz.prog W base spare held gl36 3 1 (fun n : Int => [.int n]) I64 := Opens.i64 Tryz.underlying3 (by kernel_rfl)
theorem z36 (hg : gl36.In W) : Opens enc Tryz.prog W base spare held gl36 22 1 (fun l : List Int => [q5f false l]) (fun _ => True) :=
 (Opens.slice (z35 hg q89 fun n => ⟨_, _, rfl, z89⟩) Tryz.underlying22 (by kernel_rfl) (by decide) q89).conv id (fun l => by rw [Go.Pv.ints_flat]; rfl) (fun _ _ => trivial)
theorem j8l : Opens enc Tryz.prog W base spare held gl36 29 32 (fun d : Dig => q5a d.1) (fun _ => True) :=
 ⟨by kernel_rfl, fun {fuel cs y} h => by
  obtain ⟨l, hl, hc⟩ := z63 Tryz.underlying29 Tryz.underlying5 (by kernel_rfl) (by kernel_rfl) h
  refine ⟨⟨l, hl⟩, trivial, ?_, by rw [hc, List.length_map, hl]⟩
  rw [hc]
  have := k4w (z62 W gl36) (l.map fun b => Value.int .u8 b.toNat) (fun v hv => by obtain ⟨n, -, rfl⟩ := List.mem_map.1 hv; rfl)
  rwa [List.map_map] at this⟩
theorem z0c (hg : gl36.In W) : Opens enc Tryz.prog W base spare held gl36 31 36 (fun x : Card => x.enc) (fun _ => True) :=
 (Opens.struct Tryz.underlying31 (by kernel_rfl) (.cons rfl q89 (.cons rfl q89 (.cons rfl q89 (.cons rfl (z36 hg) (.cons rfl j8l .nil)))))).conv (fun x => ⟨x.1, x.2.1, x.2.2.1, x.2.2.2.1, x.2.2.2.2.1⟩) (fun x => by simp [Card.enc]) (fun _ _ => trivial)
theorem j65 (hg : gl36.In W) : Opens enc Tryz.prog W base spare held gl36 23 1 (fun l : List Card => [Card.lst false l]) (fun _ => True) :=
 (Opens.slice (z35 hg (z0c hg) fun x => ⟨_, _, rfl, z89⟩) Tryz.underlying23 (by kernel_rfl) (by decide) (z0c hg)).conv id (fun _ => rfl) (fun _ _ => trivial)
theorem z37 : Opens enc Tryz.prog W base spare held gl36 33 4 (fun x : Sh => x.enc) (fun _ => True) :=
 (Opens.struct Tryz.underlying33 (by kernel_rfl) (.cons rfl q89 (.cons rfl q89 (.cons rfl q89 (.cons rfl q89 .nil))))).conv (fun x => ⟨x.1, x.2.1, x.2.2.1, x.2.2.2.1⟩) (fun _ => rfl) (fun _ _ => trivial)
theorem j4d (hg : gl36.In W) : Opens enc Tryz.prog W base spare held gl36 24 1 (fun l : List Sh => [Sh.lst false l]) (fun _ => True) :=
 (Opens.slice (z35 hg z37 fun x => ⟨_, _, rfl, z89⟩) Tryz.underlying24 (by kernel_rfl) (by decide) z37).conv id (fun _ => rfl) (fun _ _ => trivial)
theorem j4e (hg : gl36.In W) : Opens enc Tryz.prog W base spare held gl36 35 34 (fun x : Shn => x.enc) (fun _ => True) :=
 (Opens.struct Tryz.underlying35 (by kernel_rfl) (.cons rfl q89 (.cons rfl (z36 hg) (.cons rfl j8l .nil)))).conv (fun x => ⟨x.1, x.2.1, x.2.2.1⟩) (fun x => by simp [Shn.enc]) (fun _ _ => trivial)
theorem y06 (hg : gl36.In W) : Opens enc Tryz.prog W base spare held gl36 25 1 (fun l : List Shn => [Shn.lst false l]) (fun _ => True) :=
 (Opens.slice (z35 hg (j4e hg) fun x => ⟨_, _, rfl, z89⟩) Tryz.underlying25 (by kernel_rfl) (by decide) (j4e hg)).conv id (fun _ => rfl) (fun _ _ => trivial)
theorem j8m (hg : gl36.In W) : Opens enc Tryz.prog W base spare held gl36 27 10 (fun x : Ses => x.enc) Wide :=
 (Opens.struct Tryz.underlying27 (by kernel_rfl) (.cons rfl q89 (.cons rfl q89 (.cons rfl q89 (.cons rfl (z36 hg) (.cons rfl q89 (.cons rfl q89 (.cons rfl q89 (.cons rfl (j65 hg) (.cons rfl (j4d hg) (.cons rfl (y06 hg) .nil))))))))))).conv
  (fun x => ⟨x.1, x.2.1, x.2.2.1, x.2.2.2.1, x.2.2.2.2.1, x.2.2.2.2.2.1, x.2.2.2.2.2.2.1, x.2.2.2.2.2.2.2.1, x.2.2.2.2.2.2.2.2.1, x.2.2.2.2.2.2.2.2.2.1⟩) (fun x => by simp [Ses.enc]) (fun x h => ⟨⟨h.2.2.1.1, Int.lt_of_le_of_lt h.2.2.1.2 (by decide)⟩, ⟨h.2.2.2.2.1.1, Int.lt_of_le_of_lt h.2.2.2.2.1.2 (by decide)⟩⟩)
theorem y5l (hg : gl36.In W) : Opens enc Tryz.prog W base spare held gl36 37 76 (fun x : Act => x.enc) (fun _ => True) :=
 (Opens.struct Tryz.underlying37 (by kernel_rfl) (.cons rfl q89 (.cons rfl q89 (.cons rfl (z0c hg) (.cons rfl z37 (.cons rfl (j4e hg) .nil)))))).conv (fun x => ⟨x.1, x.2.1, x.2.2.1, x.2.2.2.1, x.2.2.2.2.1⟩) (fun x => by simp [Act.enc]) (fun _ _ => trivial)
end
end Go.Proofs.YtnooplpbpfiapaaGreatDoor
