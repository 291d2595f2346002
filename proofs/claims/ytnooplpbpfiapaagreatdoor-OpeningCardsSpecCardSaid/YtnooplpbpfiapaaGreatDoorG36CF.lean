/- What was sealed is opened by its keys: plain. -/
import Derived.Test.YtnooplpbpfiapaaGreatDoorG36CA
import Derived.Test.YtnooplpbpfiapaaGreatDoorG36AG
import Derived.Test.YtnooplpbpfiapaaGreatDoorLBx
import Derived.Test.YtnooplpbpfiapaaGreatDoorG36BR
import Derived.Test.YtnooplpbpfiapaaGreatDoorG36BF
import Derived.Test.YtnooplpbpfiapaaGreatDoorS36ZK
namespace Go.Proofs.YtnooplpbpfiapaaGreatDoor
open Go.Pv Go.Pv.Sha
set_option maxRecDepth 100000
theorem j4b {x y : Int} (hx : 0 ≤ x) (hx2 : x ≤ 1000) (hy : 0 ≤ y) (hy2 : y ≤ 1073741788) : z5e ((x + y) % QI) y = x := by
 unfold z5e QI
 split <;> omega
theorem j62 {l : List Int} {most : Int} (h1 : 1 ≤ l.length) (h2 : l.length ≤ 64) (h3 : ∀ x ∈ l, 0 ≤ x ∧ x ≤ most) : q7c l most = true := by
 unfold q7c
 simp only [Bool.and_eq_true, decide_eq_true_eq, List.all_eq_true]
 exact ⟨⟨h1, h2⟩, fun x hx => by unfold wi; have := h3 x hx; simp [this.1, this.2]⟩
structure BackF (r e j : Int) (m k : List Int) (salt : List (BitVec 8)) : Prop where
 make : y61 r e j m k = true
 ope : k4c r e j (k14 m k) (j42 r e j m k salt) k salt = some m
 strip : q8d r e j (k14 m k) k = some m
 chk : chk r e j (k14 m k) = true
theorem j1d {r e j : Int} {m k : List Int} {salt : List (BitVec 8)} (hp : q7y r e j = true) (h1 : q7c m 1000 = true) (h2 : q7c k 1073741788 = true) (h3 : m.length = k.length) : BackF r e j m k salt := by
 have hb : q66 (k14 m k) k = m := by
  refine List.ext_getElem (by simp [q66, k14, h3]) fun i hi hi2 => ?_
  have hik : i < k.length := by omega
  have b1 := q58 h1 _ (List.getElem_mem hi2)
  have b2 := q58 h2 _ (List.getElem_mem hik)
  simp only [q66, k14, List.getElem_zipWith]
  exact j4b b1.1 b1.2 b2.1 b2.2
 have l1 := k3r h1
 have hl : (k14 m k).length = m.length := by simp [k14, h3]
 have hc : q7c (k14 m k) 1073741788 = true := by
  refine j62 (by omega) (by omega) fun n hn => ?_
  obtain ⟨i, hi, rfl⟩ := List.mem_iff_getElem.1 hn
  simp only [k14, List.getElem_zipWith]
  unfold QI
  omega
 have hk : Go.Proofs.YtnooplpbpfiapaaGreatDoor.chk r e j (k14 m k) = true := by simp [Go.Proofs.YtnooplpbpfiapaaGreatDoor.chk, hp, hc]
 have hbo : q6f r e j (k14 m k) k = true := by simp [q6f, hk, h2, hl, h3]
 refine ⟨by simp [y61, hp, h1, h2, h3], ?_, ?_, hk⟩
 ·unfold k4c
  rw [hb, hbo, h1]
  simp
 ·unfold q8d
  rw [hb, hbo, h1]
  simp
open Go.Pv
set_option maxRecDepth 100000
def y5a (k t : Int) : Act := ⟨k, t, default, default, default⟩
def ses2L : Ses := { ses2 with time := 5 }
def ses9 : Ses := { ses2 with sealed := [card9] }
def ses9L : Ses := { ses9 with time := 6 }
def shn9 : Shn := ⟨3, [1000], z73⟩
def sesN : Ses := { ses9L with shown := [shn9] }
theorem j63 : doR ses2 (y5a 3 0) = .inr 360 := by
 unfold doR
 rw [if_pos q9u]
 rfl
theorem y0z : doR ses2 (y5a 1 5) = .inl ses2L := Did.to q9u (.dPass rfl (by decide +kernel))
theorem j1e : q8l ses2 card9 = true := by decide +kernel
def actS : Act := ⟨2, 0, card9, default, default⟩
theorem j4c : doR ses2 actS = .inl ses9 := by
 refine Did.to q9u (.dSeal rfl ?_)
 unfold k91
 rw [if_neg (by decide +kernel)]
 have : q8l ses2 actS.card = true := j1e
 rw [if_pos this]
 rfl
theorem z2a : RightP ses9 := (j4a j4c).2.right ((q9t _).1 q9u)
theorem j4d : doR ses9 (y5a 1 6) = .inl ses9L := Did.to ((q9t _).2 z2a) (.dPass rfl (by decide +kernel))
theorem k96 : RightP ses9L := (j4a j4d).2.right z2a
theorem y5b : q8s card9 shn9 = some [9] := (j1d (r := 0) (e := 0) (j := 3) (m := [9]) (k := [1000]) (salt := z73.1) (by decide +kernel) (by decide +kernel) (by decide +kernel) rfl).ope
theorem z9h {s : Ses} (h : s.sealed = [card9]) : q8r s 3 = some card9 := by
 unfold q8r
 rw [h]
 rfl
theorem j64 {s : Ses} (h : s.sealed = [card9]) : q8r s 7 = none := by
 unfold q8r
 rw [h]
 rfl
def actN : Act := ⟨4, 0, default, default, shn9⟩
theorem j4e : doR ses9L actN = .inl sesN := by
 refine Did.to ((q9t _).2 k96) (.dShow rfl ?_)
 unfold k92
 rw [if_pos (by decide +kernel), if_pos]
 ·rfl
 ·show q75 ses9L shn9 = true
  unfold q75
  have : q8r ses9L shn9.j = some card9 := z9h rfl
  rw [this]
  show (q8s card9 shn9).isSome = true
  rw [y5b]
  rfl
theorem z2b : RightP sesN := (j4a j4e).2.right k96
theorem j4f : k2w ses2L = [⟨3, []⟩, ⟨3, []⟩] := by decide +kernel
theorem j4g : k2w sesN = [⟨1, [9]⟩, ⟨3, []⟩] := by
 unfold k2w
 rw [if_pos ((q9t _).2 z2b)]
 show [q7a sesN 3, q7a sesN 7] = _
 have ho : q8j sesN = true := by decide +kernel
 have h1 := j61 (s := sesN) (j := 3) (x := card9) (y := shn9) ho (z9h rfl) rfl
 rw [y5b] at h1
 rw [h1, j1c ho (j64 rfl)]
 rfl
theorem y5c {s : Ses} (hj : s.judges = [3, 7]) (hc : s.crits = 1) (hn : s.need = 2) (hk : s.keys = []) (h1 : s.sealed = [] ∨ s.sealed = [card9]) (h2 : s.shown = [] ∨ s.shown = [shn9]) : s.Len where
 judges := by rw [hj]; decide
 sealed := by rcases h1 with h | h <;> rw [h] <;> decide
 keys := by rw [hk]; decide
 shown := by rcases h2 with h | h <;> rw [h] <;> decide
 cards := by
  rcases h1 with h | h <;> rw [h] <;> intro x hx
  ·cases hx
  ·rw [List.mem_singleton.1 hx]; decide
 given := by
  rcases h2 with h | h <;> rw [h] <;> intro x hx
  ·cases hx
  ·rw [List.mem_singleton.1 hx]; decide
 crits := by omega
 need := by omega
open Go.Pv
set_option maxRecDepth 100000
set_option maxHeartbeats 16000000
theorem z75 (k t : Int) : PsLe (.int k :: .int t :: (k36 ++ ([.int 0, .int 0, .int 0, .int 0] ++ (.int 0 :: .nil :: zz)))) (y5a k t).enc := by
 unfold y5a Act.enc
 refine ⟨.refl _, .refl _, PsLe.append ?_ (PsLe.append (PsLe.refl _) ?_)⟩
 ·exact ⟨.refl _, .refl _, .refl _, .nil1, PsLe.refl _⟩
 ·exact ⟨.refl _, .nil1, PsLe.refl _⟩
theorem z5u (A B C X : List PV) (h : X.length = B.length) : q5i (A ++ (B ++ C)) A.length X = A ++ (X ++ C) := by
 have := q54 X A (B ++ C) 0
 rw [Nat.add_zero] at this
 rw [this, q7o _ _ _ _ (by omega), q6e _ _ h]
theorem j65 (x : Card) : q5i (.int 2 :: .int 0 :: (k36 ++ ([.int 0, .int 0, .int 0, .int 0] ++ (.int 0 :: .nil :: zz)))) 2 x.enc = .int 2 :: .int 0 :: (x.enc ++ ([.int 0, .int 0, .int 0, .int 0] ++ (.int 0 :: .nil :: zz))) :=
 z5u [.int 2, .int 0] k36 ([.int 0, .int 0, .int 0, .int 0] ++ (.int 0 :: .nil :: zz)) x.enc (by simp)
theorem y00 (x : Card) : PsLe (q5i (.int 2 :: .int 0 :: (k36 ++ ([.int 0, .int 0, .int 0, .int 0] ++ (.int 0 :: .nil :: zz)))) 2 x.enc) (⟨2, 0, x, default, default⟩ : Act).enc := by
 rw [j65]
 unfold Act.enc
 refine ⟨.refl _, .refl _, PsLe.append (PsLe.refl _) (PsLe.append (PsLe.refl _) ?_)⟩
 exact ⟨.refl _, .nil1, PsLe.refl _⟩
theorem y01 : PsLe (.int 4 :: .int 0 :: (k36 ++ ([.int 0, .int 0, .int 0, .int 0] ++ (.int 3 :: .list true [.int 1000] 1 :: .val (.int .u8 1) :: zz.tail)))) actN.enc := by
 unfold actN Act.enc
 refine ⟨.refl _, .refl _, PsLe.append ?_ (PsLe.append (PsLe.refl _) ?_)⟩
 ·exact ⟨.refl _, .refl _, .refl _, .nil1, PsLe.refl _⟩
 ·exact ⟨.refl _, .loose, PsLe.refl _⟩
theorem j66 {s x : Ses} {a : Act} (hL : s.Len) (hc : a.card.c.length ≤ 100000) (hn : a.shown.k.length ≤ 100000) (hl : s.sealed.length ≤ 1000 ∧ s.keys.length ≤ 1000 ∧ s.shown.length ≤ 1000) (h : doR s a = .inl x) (st : q5d) (h0 : q5w st 0 = some (.arr T.t8uint32 Sha.start.row)) (h1 : q5w st 1 = some q9o) {L : List PV} (hle : PsLe L a.enc) : Rets P F.q3k [s.pv, .agg L] st (.tuple [x.pv, .int 0]) := by
 have := z9e s hL a hc hn hl st ⟨h0, h1⟩
 obtain ⟨e1, e2⟩ := y49 h
 rw [e1, e2] at this
 exact Rets.args (qs := [s.pv, a.pv]) ⟨.refl _, .aggs hle, trivial⟩ this
theorem y5d {s : Ses} {a : Act} {E : Int} (hL : s.Len) (hc : a.card.c.length ≤ 100000) (hn : a.shown.k.length ≤ 100000) (hl : s.sealed.length ≤ 1000 ∧ s.keys.length ≤ 1000 ∧ s.shown.length ≤ 1000) (h : doR s a = .inr E) (st : q5d) (h0 : q5w st 0 = some (.arr T.t8uint32 Sha.start.row)) (h1 : q5w st 1 = some q9o) {L : List PV} (hle : PsLe L a.enc) : Rets P F.q3k [s.pv, .agg L] st (.tuple [zeroSes.pv, .int E]) := by
 have := z9e s hL a hc hn hl st ⟨h0, h1⟩
 have e1 : doE s a = E := by unfold doE; rw [h]
 have e2 : doS s a = zeroSes := by unfold doS; rw [h]
 rw [e1, e2] at this
 exact Rets.args (qs := [s.pv, a.pv]) ⟨.refl _, .aggs hle, trivial⟩ this
theorem z76 (st : q5d) (hG : GL st) : Rets P F.q35 [] st (.bool true) := by
 have hN := q6k hG.h0 hG.h1
 have h0 := hG.h0
 have h1 := hG.h1
 have L2 : ses2.Len := y5c rfl rfl rfl rfl (.inl rfl) (.inl rfl)
 have L2L : ses2L.Len := y5c rfl rfl rfl rfl (.inl rfl) (.inl rfl)
 have L9 : ses9.Len := y5c rfl rfl rfl rfl (.inr rfl) (.inl rfl)
 have L9L : ses9L.Len := y5c rfl rfl rfl rfl (.inr rfl) (.inl rfl)
 have LN : sesN.Len := y5c rfl rfl rfl rfl (.inr rfl) (.inr rfl)
 have c1 : ∀ st, q5w st 0 = some (.arr T.t8uint32 Sha.start.row) → q5w st 1 = some q9o → Rets P F.q39 [.int 0, .int 0, .int 1, .nil, .int 1, .int 5] st (.tuple [zeroSes.pv, .int 1]) := fun st h0 h1 => by
  have := z5o 0 0 1 [] 1 5 (by simp) (by omega) (by omega) st ⟨h0, h1⟩
  have e : q67 (z9a 0 0 1 [] 1 5) = false := by decide +kernel
  rw [e] at this
  exact Rets.args (qs := [.int 0, .int 0, .int 1, q5k false [], .int 1, .int 5]) ⟨.refl _, .refl _, .refl _, .nil0, .refl _, .refl _, trivial⟩ this
 have c2 := fun st h0 h1 => j06 st ⟨h0, h1⟩
 have c3 : ∀ st, q5w st 0 = some (.arr T.t8uint32 Sha.start.row) → q5w st 1 = some q9o → Rets P F.q4b [ses2.pv] st (.tuple [.bool false, .int 0]) := fun st h0 h1 => by
  have := j00 ses2 L2 st ⟨h0, h1⟩
  have e : q8j ses2 = false := by decide +kernel
  rw [q9u, e, if_pos rfl] at this
  exact this
 have c4 := fun st h0 h1 => y5d L2 (by decide) (by decide) (by decide) j63 st h0 h1 (z75 3 0)
 have c5 := fun st h0 h1 => j66 L2 (by decide) (by decide) (by decide) y0z st h0 h1 (z75 1 5)
 have c6 := fun st h0 h1 => k5c ses2L L2L (by decide) st ⟨h0, h1⟩
 rw [j4f, show q67 ses2L = true by decide +kernel, if_pos rfl] at c6
 have c7 := fun st h0 h1 => z33 st ⟨h0, h1⟩
 have c8 := fun st h0 h1 => j66 L2 (by decide) (by decide) (by decide) j4c st h0 h1 (y00 card9)
 have c9 := fun st h0 h1 => j66 L9 (by decide) (by decide) (by decide) j4d st h0 h1 (z75 1 6)
 have c10 := fun st h0 h1 => j66 L9L (by decide) (by decide) (by decide) j4e st h0 h1 y01
 have c11 := fun st h0 h1 => k5c sesN LN (by decide) st ⟨h0, h1⟩
 rw [j4g, (q9t _).2 z2b, if_pos rfl] at c11
 have c12 : ∀ st, q5w st 0 = some (.arr T.t8uint32 Sha.start.row) → q5w st 1 = some q9o → Rets P F.q12 [.agg [.int 0, .int 0, .int 0, .nil, .int 0, .int 0, .int 0, .nil, .nil, .nil]] st (.int 360) := fun st h0 h1 => by
  have := k04 zeroSes z7u st ⟨h0, h1⟩
  rw [show q67 zeroSes = false by decide +kernel] at this
  exact Rets.args (qs := [zeroSes.pv]) ⟨q85, trivial⟩ this
 have c13 : ∀ st, q5w st 0 = some (.arr T.t8uint32 Sha.start.row) → q5w st 1 = some q9o → Rets P F.q12 [ses2.pv] st (.int 0) := fun st h0 h1 => by
  have := k04 ses2 L2 st ⟨h0, h1⟩
  rw [q9u, if_pos rfl] at this
  exact this
 have c14 : ∀ st, Rets P F.q05 [Opd.lst false [⟨3, []⟩, ⟨3, []⟩], .list true [.int 3, .nil, .int 3, .nil] 2] st (.bool true) := fun st =>
  Rets.args (qs := [Opd.lst false [⟨3, []⟩, ⟨3, []⟩], Opd.lst true [⟨3, []⟩, ⟨3, []⟩]]) ⟨.refl _, .lists ⟨.refl _, .nil1, .refl _, .nil1, trivial⟩, trivial⟩ (k05 false true _ (by simp) (by simp) st)
 have c15 : ∀ st, Rets P F.q05 [Opd.lst false [⟨1, [9]⟩, ⟨3, []⟩], .list true [.int 1, .list true [.int 9] 1, .int 3, .nil] 2] st (.bool true) := fun st =>
  Rets.args (qs := [Opd.lst false [⟨1, [9]⟩, ⟨3, []⟩], Opd.lst true [⟨1, [9]⟩, ⟨3, []⟩]]) ⟨.refl _, .lists ⟨.refl _, .loose, .refl _, .nil1, trivial⟩, trivial⟩ (k05 false true _ (by simp) (by simp) st)
 simp only [List.cons_append, List.nil_append, List.tail_cons] at c4 c5 c8 c9 c10
 generalize Opd.lst false [⟨3, []⟩, ⟨3, []⟩] = O1 at *
 generalize Opd.lst false [⟨1, [9]⟩, ⟨3, []⟩] = O2 at *
 clear hG L2 L2L L9 L9L LN
 refine H.q35.view q5n rfl rfl ?_
 repeat' (first 
  | (with_reducible refine Fresh.intro fun b hb => ?_) <;> (try simp -dsimp -implicitDefEqProofs [*] at hb)
  | (with_reducible refine Rets.xcall (c1 _ (by simp [*]) (by simp [*])) ?_)
  | (with_reducible refine Rets.xcall (c2 _ (by simp [*]) (by simp [*])) ?_)
  | (with_reducible refine Rets.xcall (c3 _ (by simp [*]) (by simp [*])) ?_)
  | (with_reducible refine Rets.xcall (c4 _ (by simp [*]) (by simp [*])) ?_)
  | (with_reducible refine Rets.xcall (c5 _ (by simp [*]) (by simp [*])) ?_)
  | (with_reducible refine Rets.xcall (c6 _ (by simp [*]) (by simp [*])) ?_)
  | (with_reducible refine Rets.xcall (c7 _ (by simp [*]) (by simp [*])) ?_)
  | (with_reducible refine Rets.xcall (c8 _ (by simp [*]) (by simp [*])) ?_)
  | (with_reducible refine Rets.xcall (c9 _ (by simp [*]) (by simp [*])) ?_)
  | (with_reducible refine Rets.xcall (c10 _ (by simp [*]) (by simp [*])) ?_)
  | (with_reducible refine Rets.xcall (c11 _ (by simp [*]) (by simp [*])) ?_)
  | (with_reducible refine Rets.xcall (c12 _ (by simp [*]) (by simp [*])) ?_)
  | (with_reducible refine Rets.xcall (c13 _ (by simp [*]) (by simp [*])) ?_)
  | (with_reducible refine Rets.xcall (c14 _) ?_)
  | (with_reducible refine Rets.xcall (c15 _) ?_)
  | (with_reducible refine Lit.imm ?_)
  | (simp -dsimp -implicitDefEqProofs [*]))
 exact RetView.drop (st' := st) q5q ⟨rfl, rfl⟩
open Go.Pv
set_option maxRecDepth 100000
set_option maxHeartbeats 16000000
structure Wide (s : Ses) : Prop where
 c : -9223372036854775808 ≤ s.crits ∧ s.crits < 9223372036854775808
 n : -9223372036854775808 ≤ s.need ∧ s.need < 9223372036854775808
theorem k97 {c k : List Int} : (q66 c k).length ≤ c.length := by simp [q66]; omega
theorem j4h {s : Ses} (hL : s.Len) (j : Int) : (q7a s j).marks.length ≤ 100000 := by
 unfold q7a
 split
 ·split
  ·simp
  ·rename_i x hx
   have hxc := hL.cards x (z31 hx).2
   split
   ·show ((q8s x _).getD []).length ≤ 100000
    unfold q8s k4c
    split
    ·exact Nat.le_trans k97 hxc
    ·simp
   ·split
    ·rename_i m hm
     unfold k1n at hm
     split at hm
     ·cases hm
     ·unfold q8d at hm
      split at hm
      ·cases hm
       exact Nat.le_trans k97 hxc
      ·cases hm
    ·split <;> simp
 ·simp
theorem z5v {s : Ses} (hL : s.Len) : (k2w s).length ≤ 100000 ∧ ∀ x ∈ k2w s, x.marks.length ≤ 9223372036854775807 := by
 unfold k2w
 split
 ·refine ⟨by rw [List.length_map]; exact hL.judges, fun x hx => ?_⟩
  obtain ⟨j, -, rfl⟩ := List.mem_map.1 hx
  have := j4h hL j
  omega
 ·exact ⟨by simp, fun x hx => by cases hx⟩
open Go.Pv Go.Pv.Ip
set_option maxRecDepth 100000
set_option maxHeartbeats 8000000
theorem q9a (n : Int) (st : q5d) : Rets P F.q00 [.int n] st (.int (n % Qi)) := by
 refine H.q00.pure q5n rfl rfl ?_
 have b := k0c n
 have hQ : n % Qi = n % 1073741789 := rfl
 have w1 : IntKind.i64.wrap (n % Qi) = n % Qi := q5m (by omega) (by unfold Qi at *; omega)
 rcases y44 n with h | ⟨h, h0⟩
 ·have e : n.tmod 1073741789 = n % Qi := h
  have hn : ¬ n % Qi < 0 := by omega
  clear b hQ h
  generalize n % Qi = m at *
  repeat' (simp -dsimp -implicitDefEqProofs [*])
 ·have w0 : IntKind.i64.wrap (n.tmod 1073741789) = n.tmod 1073741789 := q5m (by unfold Qi at *; omega) (by unfold Qi at *; omega)
  have hn : n.tmod 1073741789 < 0 := by unfold Qi at *; omega
  have e : n.tmod 1073741789 + 1073741789 = n % Qi := by unfold Qi at *; omega
  clear b hQ h h0
  generalize n % Qi = m at *
  generalize hk : n.tmod 1073741789 = k at *
  repeat' (simp -dsimp -implicitDefEqProofs [*])
theorem k6i (a b : Int) (st : q5d) : Rets P F.q2w [.int a, .int b] st (.int (a % Qi * (b % Qi) % Qi)) := by
 refine H.q2w.pure q5n rfl rfl ?_
 have ha := k0c a
 have hb := k0c b
 have hm1 := fun st => q9a a st
 have hm2 := fun st => q9a b st
 generalize a % Qi = x at *
 generalize b % Qi = y at *
 have h := mulQ ⟨ha.1, by omega⟩ ⟨hb.1, by omega⟩
 have w1 : IntKind.i64.wrap (x * y) = x * y := q5m (by omega) (by omega)
 have e := j3o (x * y) h.1
 have m := k0c (x * y)
 have w2 : IntKind.i64.wrap (x * y % Qi) = x * y % Qi := q5m (by omega) (by unfold Qi at *; omega)
 clear ha hb h m
 repeat' (first 
  | (with_reducible refine Rets.xcall (hm1 _) ?_)
  | (with_reducible refine Rets.xcall (hm2 _) ?_)
  | (simp -dsimp -implicitDefEqProofs [*]))
theorem k98 (a b : Int) (st : q5d) : Rets P F.q3f [.int a, .int b] st (.int ((a % Qi + b % Qi) % Qi)) := by
 refine H.q3f.pure q5n rfl rfl ?_
 have ha := k0c a
 have hb := k0c b
 have hm1 := fun st => q9a a st
 have hm2 := fun st => q9a b st
 generalize a % Qi = x at *
 generalize b % Qi = y at *
 have w1 : IntKind.i64.wrap (x + y) = x + y := q5m (by omega) (by unfold Qi at *; omega)
 have e := j3o (x + y) (by omega)
 have m := k0c (x + y)
 have w2 : IntKind.i64.wrap ((x + y) % Qi) = (x + y) % Qi := q5m (by omega) (by unfold Qi at *; omega)
 clear ha hb m
 repeat' (first 
  | (with_reducible refine Rets.xcall (hm1 _) ?_)
  | (with_reducible refine Rets.xcall (hm2 _) ?_)
  | (simp -dsimp -implicitDefEqProofs [*]))
theorem z77 (n : Int) (st : q5d) : Rets P F.q32 [.int n, .int 1073741787] st (.int (k3l n)) := by
 have hp := z87 n
 obtain ⟨R, hR⟩ : ∃ R, R = k3l n := ⟨_, rfl⟩
 rw [← hR] at hp ⊢
 clear hR
 refine H.q32.view q5n rfl rfl ?_
 have hp := Hid.mk hp
 repeat' (simp -dsimp -implicitDefEqProofs [*])
 refine q5g (fun y : Nat × Int × Int × Int => [(0, .int y.2.2.1), (1, .int y.2.2.2), (5, .int y.2.1)]) (fun _ => st) (fun y => (0 ≤ y.2.2.2 ∧ y.2.2.2 < 2 ^ y.1 ∧ y.2.2.2 ≤ 1073741787) ∧ Hid (k2j y.1 y.2.1 y.2.2.1 y.2.2.2 = R)) (fun y => y.2.2.2.toNat) (31, 1, n, 1073741787) ⟨show (0 : Int) ≤ 1073741787 ∧ (1073741787 : Int) < 2 ^ 31 ∧ (1073741787 : Int) ≤ 1073741787 by decide, hp⟩ (by simp) (.refl _) ?_
 rintro ⟨f, c, m, k⟩ ⟨⟨hk0, hkf, hkm⟩, hI⟩
 simp only at hk0 hkf hkm
 replace hI : Hid (k2j f c m k = R) := hI
 by_cases hk : k = 0
 ·subst hk
  have e := hI.out
  rw [z10] at e
  subst e
  clear hI hp
  repeat' (simp -dsimp -implicitDefEqProofs [*])
  exact .same ⟨rfl, rfl⟩
 ·cases f with
  | zero => simp at hkf; omega
  | succ f =>
   have e := hI.out
   rw [k37 (by omega)] at e
   have t1 : k.tmod 2 = k % 2 := Int.tmod_eq_emod_of_nonneg hk0
   have t2 : k.tdiv 2 = k / 2 := Int.tdiv_eq_ediv_of_nonneg hk0
   have w1 : IntKind.i64.wrap (k % 2) = k % 2 := q5m (by omega) (by omega)
   have w2 : IntKind.i64.wrap (k / 2) = k / 2 := q5m (by omega) (by omega)
   have c1 := k6i c m
   have c2 := k6i m m
   have hkf2 : k / 2 < 2 ^ f := by
    rw [Int.pow_succ] at hkf
    omega
   have hkk : 0 ≤ k / 2 ∧ k / 2 ≤ 1073741787 ∧ (k / 2).toNat < k.toNat := by omega
   have hkp : 0 < k := by omega
   obtain ⟨A, hA⟩ : ∃ A, A = c % Qi * (m % Qi) % Qi := ⟨_, rfl⟩
   obtain ⟨B, hB⟩ : ∃ B, B = m % Qi * (m % Qi) % Qi := ⟨_, rfl⟩
   rw [← hA, ← hB] at e
   rw [← hA] at c1
   rw [← hB] at c2
   obtain ⟨q, hq⟩ : ∃ q, q = k / 2 := ⟨_, rfl⟩
   rw [← hq] at e hkf2 hkk t2 w2
   clear hA hB hI hp hq hkf
   by_cases hb : k % 2 = 1
   ·rw [if_pos hb] at e
    have e := Hid.mk e
    rw [hb] at t1
    clear hb w1
    repeat' (first 
     | (with_reducible refine Rets.xcall (c1 _) ?_)
     | (with_reducible refine Rets.xcall (c2 _) ?_)
     | (simp -dsimp -implicitDefEqProofs [*]))
    exact Next.intro (f, A, B, q) ⟨⟨hkk.1, hkf2, hkk.2.1⟩, e⟩ (by simp only; omega) (by simp) q5q
   ·rw [if_neg hb] at e
    have e := Hid.mk e
    have hb0 : k % 2 = 0 := by omega
    rw [hb0] at t1
    clear hb hb0 w1
    repeat' (first 
     | (with_reducible refine Rets.xcall (c2 _) ?_)
     | (simp -dsimp -implicitDefEqProofs [*]))
    exact Next.intro (f, c, B, q) ⟨⟨hkk.1, hkf2, hkk.2.1⟩, e⟩ (by simp only; omega) (by simp) q5q
theorem z34 (n : Int) (st : q5d) : Rets P F.q2u [.int n] st (.tuple [.int (k3l n), .int (if n % Qi = 0 then 120 else 0)]) := by
 have cm := q9a n
 have cp := z77 n
 by_cases h0 : n % Qi = 0
 ·rw [if_pos h0, z5i h0]
  rw [h0] at cm
  refine H.q2u.pure q5n rfl rfl ?_
  repeat' (first 
   | (with_reducible refine Rets.xcall (cm _) ?_)
   | (simp -dsimp -implicitDefEqProofs [*]))
 ·rw [if_neg h0]
  generalize n % Qi = r at *
  refine H.q2u.pure q5n rfl rfl ?_
  repeat' (first 
   | (with_reducible refine Rets.xcall (cm _) ?_)
   | (with_reducible refine Rets.xcall (cp _) ?_)
   | (simp -dsimp -implicitDefEqProofs [*]))
theorem k99 (t : Bool) (l : List Pt) (hl : l.length ≤ 24) (hg : GoodP (q56 l)) (st : q5d) : Rets P F.q2y [Pt.lst t l] st (.bool true) := by
 have hX : Hid (∀ n (h : n < l.length), l[n].X % Qi = l[n].X) := ⟨fun n h => by
  have := hg.x n (by rw [q71]; exact h)
  rw [X, q8h h] at this
  exact Int.emod_eq_of_lt this.1 (by unfold Qi; omega)⟩
 have hN : Hid (∀ n k (h : n < l.length) (h2 : k < n), ¬ l[n].X = l[k].X) := ⟨fun n k h h2 => by
  have := hg.ne n k (by rw [q71]; exact h) (by rw [q71]; omega) (by omega)
  rw [X, X, q8h h, q8h (show k < l.length by omega)] at this
  exact this⟩
 clear hg
 refine H.q2y.view q5n rfl rfl ?_
 repeat' (simp -dsimp -implicitDefEqProofs [*])
 refine q5g (fun n : Nat => [(0, Pt.lst t l), (3, .int n)]) (fun _ => st) (fun n => n ≤ l.length) (fun n => l.length - n) 0 (Nat.zero_le _) (by simp) (.refl _) ?_
 intro n hn
 by_cases hnl : n < l.length
 ·have hw := q5h (n := n) (by omega)
  repeat' (simp -dsimp -implicitDefEqProofs [*])
  refine q5g (fun k : Nat => [(0, Pt.lst t l), (3, .int n), (4, .int k)]) (fun _ => st) (fun k => k ≤ n) (fun k => n - k) 0 (Nat.zero_le _) (by simp) (.refl _) ?_
  intro k hk
  by_cases hkn : k < n
  ·have hw2 := q5h (n := k) (by omega)
   have x1 := hX.out n hnl
   have x2 := hX.out k (by omega)
   have c1 := q9a l[n].X
   have c2 := q9a l[k].X
   rw [x1] at c1
   rw [x2] at c2
   have g1 := Pt.row_get0 l n hnl
   have g2 := Pt.row_get0 l k (by omega)
   have hne := hN.out n k hnl hkn
   have b1 : n * 2 < l.length * 2 := by omega
   have b2 : k * 2 < l.length * 2 := by omega
   have hkl : k < l.length := by omega
   obtain ⟨x, hx⟩ : ∃ x, x = l[n].X := ⟨_, rfl⟩
   obtain ⟨y, hy⟩ : ∃ y, y = l[k].X := ⟨_, rfl⟩
   rw [← hx] at c1 g1 hne
   rw [← hy] at c2 g2 hne
   have E1 : ∀ h, (Pt.row l)[n * 2]'h = .int x := fun h => by have := List.getElem?_eq_getElem h; rw [g1] at this; exact (Option.some.inj this).symm
   have E2 : ∀ h, (Pt.row l)[k * 2]'h = .int y := fun h => by have := List.getElem?_eq_getElem h; rw [g2] at this; exact (Option.some.inj this).symm
   clear x1 x2 hX hN hx hy
   repeat' (first 
    | (with_reducible refine Rets.xcall (c1 _) ?_)
    | (with_reducible refine Rets.xcall (c2 _) ?_)
    | (with_reducible refine DrawLate.intro [] ?_)
    | (simp -dsimp -implicitDefEqProofs [-Pt.row_getE0, *]))
   exact Next.intro (k + 1) (by omega) (by omega) (by simp) q5q
  ·obtain rfl : k = n := by omega
   clear hX hN
   repeat' (simp -dsimp -implicitDefEqProofs [*])
   exact Next.intro (k + 1) (by omega) (by omega) (by simp) q5q
 ·obtain rfl : n = l.length := by omega
  clear hX hN
  repeat' (simp -dsimp -implicitDefEqProofs [*])
  exact .same ⟨rfl, rfl⟩
theorem y5e (x y : Int) : k3l ((x % Qi + (-(y % Qi)) % Qi) % Qi) = k3l (x - y) := z1u (z7d x y)
theorem j4i (p z x v : Int) : p % Qi % Qi * (((z % Qi + (-(x % Qi)) % Qi) % Qi % Qi * (v % Qi) % Qi) % Qi) % Qi = p * ((z - x) * v) % Qi := by
 have : Cg (p % Qi % Qi * (((z % Qi + (-(x % Qi)) % Qi) % Qi % Qi * (v % Qi) % Qi) % Qi)) (p * ((z - x) * v)) :=
  Cg.mul ((Cg.mod _).trans (Cg.mod _)) ((Cg.mod _).trans ((Cg.mod _).trans (Cg.mul ((Cg.mod _).trans (z7d z x)) (Cg.mod _))))
 exact this
end Go.Proofs.YtnooplpbpfiapaaGreatDoor
