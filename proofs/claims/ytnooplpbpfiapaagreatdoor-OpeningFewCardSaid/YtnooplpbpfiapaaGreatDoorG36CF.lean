/- What was sealed is opened by its keys: plain. -/
import Derived.Test.YtnooplpbpfiapaaGreatDoorG36CA
import Derived.Test.YtnooplpbpfiapaaGreatDoorG36AG
import Derived.Test.YtnooplpbpfiapaaGreatDoorLBx
import Derived.Test.YtnooplpbpfiapaaGreatDoorG36BR
namespace Go.Proofs.YtnooplpbpfiapaaGreatDoor
open Go.Pv Go.Pv.Sha
set_option maxRecDepth 100000
theorem j32 {x y : Int} (hx : 0 ≤ x) (hx2 : x ≤ 1000) (hy : 0 ≤ y) (hy2 : y ≤ 1073741788) : z29 ((x + y) % QI) y = x := by
 unfold z29 QI
 split <;> omega
theorem j6q {l : List Int} {most : Int} (h1 : 1 ≤ l.length) (h2 : l.length ≤ 64) (h3 : ∀ x ∈ l, 0 ≤ x ∧ x ≤ most) : q6x l most = true := by
 unfold q6x
 simp only [Bool.and_eq_true, decide_eq_true_eq, List.all_eq_true]
 exact ⟨⟨h1, h2⟩, fun x hx => by unfold wi; have := h3 x hx; simp [this.1, this.2]⟩
structure BackF (r e j : Int) (m k : List Int) (salt : List (BitVec 8)) : Prop where
 make : y6y r e j m k = true
 ope : k4n r e j (k1p m k) (j4t r e j m k salt) k salt = some m
 strip : q9z r e j (k1p m k) k = some m
 chk : chk r e j (k1p m k) = true
theorem j0x {r e j : Int} {m k : List Int} {salt : List (BitVec 8)} (hp : q7n r e j = true) (h1 : q6x m 1000 = true) (h2 : q6x k 1073741788 = true) (h3 : m.length = k.length) : BackF r e j m k salt := by
 have hb : q62 (k1p m k) k = m := by
  refine List.ext_getElem (by simp [q62, k1p, h3]) fun i hi hi2 => ?_
  have hik : i < k.length := by omega
  have b1 := q5w h1 _ (List.getElem_mem hi2)
  have b2 := q5w h2 _ (List.getElem_mem hik)
  simp only [q62, k1p, List.getElem_zipWith]
  exact j32 b1.1 b1.2 b2.1 b2.2
 have l1 := k1n h1
 have hl : (k1p m k).length = m.length := by simp [k1p, h3]
 have hc : q6x (k1p m k) 1073741788 = true := by
  refine j6q (by omega) (by omega) fun n hn => ?_
  obtain ⟨i, hi, rfl⟩ := List.mem_iff_getElem.1 hn
  simp only [k1p, List.getElem_zipWith]
  unfold QI
  omega
 have hk : Go.Proofs.YtnooplpbpfiapaaGreatDoor.chk r e j (k1p m k) = true := by simp [Go.Proofs.YtnooplpbpfiapaaGreatDoor.chk, hp, hc]
 have hbo : q55 r e j (k1p m k) k = true := by simp [q55, hk, h2, hl, h3]
 refine ⟨by simp [y6y, hp, h1, h2, h3], ?_, ?_, hk⟩
 ·unfold k4n
  rw [hb, hbo, h1]
  simp
 ·unfold q9z
  rw [hb, hbo, h1]
  simp
open Go.Pv
set_option maxRecDepth 100000
def y47 (k t : Int) : Act := ⟨k, t, default, default, default⟩
def ses2L : Ses := { ses2 with time := 5 }
def ses9 : Ses := { ses2 with sealed := [card9] }
def ses9L : Ses := { ses9 with time := 6 }
def shn9 : Shn := ⟨3, [1000], z7q⟩
def sesN : Ses := { ses9L with shown := [shn9] }
theorem j6r : doR ses2 (y47 3 0) = .inr 360 := by
 unfold doR
 rw [if_pos q9g]
 rfl
theorem y0u : doR ses2 (y47 1 5) = .inl ses2L := Did.to q9g (.dPass rfl (by decide +kernel))
theorem j0y : q74 ses2 card9 = true := by decide +kernel
def actS : Act := ⟨2, 0, card9, default, default⟩
theorem j33 : doR ses2 actS = .inl ses9 := by
 refine Did.to q9g (.dSeal rfl ?_)
 unfold k9n
 rw [if_neg (by decide +kernel)]
 have : q74 ses2 actS.card = true := j0y
 rw [if_pos this]
 rfl
theorem z1w : RightP ses9 := (j31 j33).2.right ((q8a _).1 q9g)
theorem j34 : doR ses9 (y47 1 6) = .inl ses9L := Did.to ((q8a _).2 z1w) (.dPass rfl (by decide +kernel))
theorem k9u : RightP ses9L := (j31 j34).2.right z1w
theorem y48 : q9u card9 shn9 = some [9] := (j0x (r := 0) (e := 0) (j := 3) (m := [9]) (k := [1000]) (salt := z7q.1) (by decide +kernel) (by decide +kernel) (by decide +kernel) rfl).ope
theorem z8z {s : Ses} (h : s.sealed = [card9]) : q73 s 3 = some card9 := by
 unfold q73
 rw [h]
 rfl
theorem j6s {s : Ses} (h : s.sealed = [card9]) : q73 s 7 = none := by
 unfold q73
 rw [h]
 rfl
def actN : Act := ⟨4, 0, default, default, shn9⟩
theorem j35 : doR ses9L actN = .inl sesN := by
 refine Did.to ((q8a _).2 k9u) (.dShow rfl ?_)
 unfold k9o
 rw [if_pos (by decide +kernel), if_pos]
 ·rfl
 ·show q7t ses9L shn9 = true
  unfold q7t
  have : q73 ses9L shn9.j = some card9 := z8z rfl
  rw [this]
  show (q9u card9 shn9).isSome = true
  rw [y48]
  rfl
theorem z1x : RightP sesN := (j31 j35).2.right k9u
theorem j36 : k34 ses2L = [⟨3, []⟩, ⟨3, []⟩] := by decide +kernel
theorem j37 : k34 sesN = [⟨1, [9]⟩, ⟨3, []⟩] := by
 unfold k34
 rw [if_pos ((q8a _).2 z1x)]
 show [q8x sesN 3, q8x sesN 7] = _
 have ho : q72 sesN = true := by decide +kernel
 have h1 := j6p (s := sesN) (j := 3) (x := card9) (y := shn9) ho (z8z rfl) rfl
 rw [y48] at h1
 rw [h1, j0w ho (j6s rfl)]
 rfl
theorem y49 {s : Ses} (hj : s.judges = [3, 7]) (hc : s.crits = 1) (hn : s.need = 2) (hk : s.keys = []) (h1 : s.sealed = [] ∨ s.sealed = [card9]) (h2 : s.shown = [] ∨ s.shown = [shn9]) : s.Len where
 judges := by rw [hj]; decide
 sealed := by rcases h1 with h | h <;> rw [h] <;> decide
 keys := by rw [hk]; decide
 shown := by rcases h2 with h | h <;> rw [h] <;> decide
 cards := by
  rcases h1 with h | h <;> rw [h] <;> intro x hx
  ·cases hx
  ·rw [List.mem_singleton.1 hx]; decide
 given := by
  rcases h2 with h | h <;> rw [h] <;> intro x hx
  ·cases hx
  ·rw [List.mem_singleton.1 hx]; decide
 crits := by omega
 need := by omega
open Go.Pv
set_option maxRecDepth 100000
set_option maxHeartbeats 16000000
theorem z7r (k t : Int) : PsLe (.int k :: .int t :: (k19 ++ ([.int 0, .int 0, .int 0, .int 0] ++ (.int 0 :: .nil :: zz)))) (y47 k t).enc := by
 unfold y47 Act.enc
 refine ⟨.refl _, .refl _, PsLe.append ?_ (PsLe.append (PsLe.refl _) ?_)⟩
 ·exact ⟨.refl _, .refl _, .refl _, .nil1, PsLe.refl _⟩
 ·exact ⟨.refl _, .nil1, PsLe.refl _⟩
theorem z5k (A B C X : List PV) (h : X.length = B.length) : q48 (A ++ (B ++ C)) A.length X = A ++ (X ++ C) := by
 have := q5t X A (B ++ C) 0
 rw [Nat.add_zero] at this
 rw [this, q7c _ _ _ _ (by omega), q53 _ _ h]
theorem j6t (x : Card) : q48 (.int 2 :: .int 0 :: (k19 ++ ([.int 0, .int 0, .int 0, .int 0] ++ (.int 0 :: .nil :: zz)))) 2 x.enc = .int 2 :: .int 0 :: (x.enc ++ ([.int 0, .int 0, .int 0, .int 0] ++ (.int 0 :: .nil :: zz))) :=
 z5k [.int 2, .int 0] k19 ([.int 0, .int 0, .int 0, .int 0] ++ (.int 0 :: .nil :: zz)) x.enc (by simp)
theorem y0v (x : Card) : PsLe (q48 (.int 2 :: .int 0 :: (k19 ++ ([.int 0, .int 0, .int 0, .int 0] ++ (.int 0 :: .nil :: zz)))) 2 x.enc) (⟨2, 0, x, default, default⟩ : Act).enc := by
 rw [j6t]
 unfold Act.enc
 refine ⟨.refl _, .refl _, PsLe.append (PsLe.refl _) (PsLe.append (PsLe.refl _) ?_)⟩
 exact ⟨.refl _, .nil1, PsLe.refl _⟩
theorem y0w : PsLe (.int 4 :: .int 0 :: (k19 ++ ([.int 0, .int 0, .int 0, .int 0] ++ (.int 3 :: .list true [.int 1000] 1 :: .val (.int .u8 1) :: zz.tail)))) actN.enc := by
 unfold actN Act.enc
 refine ⟨.refl _, .refl _, PsLe.append ?_ (PsLe.append (PsLe.refl _) ?_)⟩
 ·exact ⟨.refl _, .refl _, .refl _, .nil1, PsLe.refl _⟩
 ·exact ⟨.refl _, .loose, PsLe.refl _⟩
theorem j38 {s x : Ses} {a : Act} (hL : s.Len) (hc : a.card.c.length ≤ 100000) (hn : a.shown.k.length ≤ 100000) (hl : s.sealed.length ≤ 1000 ∧ s.keys.length ≤ 1000 ∧ s.shown.length ≤ 1000) (h : doR s a = .inl x) (st : q43) (h0 : q5m st 0 = some (.arr T.t8uint32 Sha.start.row)) (h1 : q5m st 1 = some q8z) {L : List PV} (hle : PsLe L a.enc) : Rets P F.q2p [s.pv, .agg L] st (.tuple [x.pv, .int 0]) := by
 have := z8v s hL a hc hn hl st ⟨h0, h1⟩
 obtain ⟨e1, e2⟩ := y46 h
 rw [e1, e2] at this
 exact Rets.args (qs := [s.pv, a.pv]) ⟨.refl _, .aggs hle, trivial⟩ this
theorem y5a {s : Ses} {a : Act} {E : Int} (hL : s.Len) (hc : a.card.c.length ≤ 100000) (hn : a.shown.k.length ≤ 100000) (hl : s.sealed.length ≤ 1000 ∧ s.keys.length ≤ 1000 ∧ s.shown.length ≤ 1000) (h : doR s a = .inr E) (st : q43) (h0 : q5m st 0 = some (.arr T.t8uint32 Sha.start.row)) (h1 : q5m st 1 = some q8z) {L : List PV} (hle : PsLe L a.enc) : Rets P F.q2p [s.pv, .agg L] st (.tuple [zeroSes.pv, .int E]) := by
 have := z8v s hL a hc hn hl st ⟨h0, h1⟩
 have e1 : doE s a = E := by unfold doE; rw [h]
 have e2 : doS s a = zeroSes := by unfold doS; rw [h]
 rw [e1, e2] at this
 exact Rets.args (qs := [s.pv, a.pv]) ⟨.refl _, .aggs hle, trivial⟩ this
theorem z7s (st : q43) (hG : GL st) : Rets P F.q3w [] st (.bool true) := by
 have hN := q57 hG.h0 hG.h1
 have h0 := hG.h0
 have h1 := hG.h1
 have L2 : ses2.Len := y49 rfl rfl rfl rfl (.inl rfl) (.inl rfl)
 have L2L : ses2L.Len := y49 rfl rfl rfl rfl (.inl rfl) (.inl rfl)
 have L9 : ses9.Len := y49 rfl rfl rfl rfl (.inr rfl) (.inl rfl)
 have L9L : ses9L.Len := y49 rfl rfl rfl rfl (.inr rfl) (.inl rfl)
 have LN : sesN.Len := y49 rfl rfl rfl rfl (.inr rfl) (.inr rfl)
 have c1 : ∀ st, q5m st 0 = some (.arr T.t8uint32 Sha.start.row) → q5m st 1 = some q8z → Rets P F.q30 [.int 0, .int 0, .int 1, .nil, .int 1, .int 5] st (.tuple [zeroSes.pv, .int 1]) := fun st h0 h1 => by
  have := z5d 0 0 1 [] 1 5 (by simp) (by omega) (by omega) st ⟨h0, h1⟩
  have e : q67 (z8r 0 0 1 [] 1 5) = false := by decide +kernel
  rw [e] at this
  exact Rets.args (qs := [.int 0, .int 0, .int 1, q49 false [], .int 1, .int 5]) ⟨.refl _, .refl _, .refl _, .nil0, .refl _, .refl _, trivial⟩ this
 have c2 := fun st h0 h1 => j0s st ⟨h0, h1⟩
 have c3 : ∀ st, q5m st 0 = some (.arr T.t8uint32 Sha.start.row) → q5m st 1 = some q8z → Rets P F.q3o [ses2.pv] st (.tuple [.bool false, .int 0]) := fun st h0 h1 => by
  have := z1q ses2 L2 st ⟨h0, h1⟩
  have e : q72 ses2 = false := by decide +kernel
  rw [q9g, e, if_pos rfl] at this
  exact this
 have c4 := fun st h0 h1 => y5a L2 (by decide) (by decide) (by decide) j6r st h0 h1 (z7r 3 0)
 have c5 := fun st h0 h1 => j38 L2 (by decide) (by decide) (by decide) y0u st h0 h1 (z7r 1 5)
 have c6 := fun st h0 h1 => k4u ses2L L2L (by decide) st ⟨h0, h1⟩
 rw [j36, show q67 ses2L = true by decide +kernel, if_pos rfl] at c6
 have c7 := fun st h0 h1 => z3t st ⟨h0, h1⟩
 have c8 := fun st h0 h1 => j38 L2 (by decide) (by decide) (by decide) j33 st h0 h1 (y0v card9)
 have c9 := fun st h0 h1 => j38 L9 (by decide) (by decide) (by decide) j34 st h0 h1 (z7r 1 6)
 have c10 := fun st h0 h1 => j38 L9L (by decide) (by decide) (by decide) j35 st h0 h1 y0w
 have c11 := fun st h0 h1 => k4u sesN LN (by decide) st ⟨h0, h1⟩
 rw [j37, (q8a _).2 z1x, if_pos rfl] at c11
 have c12 : ∀ st, q5m st 0 = some (.arr T.t8uint32 Sha.start.row) → q5m st 1 = some q8z → Rets P F.q11 [.agg [.int 0, .int 0, .int 0, .nil, .int 0, .int 0, .int 0, .nil, .nil, .nil]] st (.int 360) := fun st h0 h1 => by
  have := k0p zeroSes z7i st ⟨h0, h1⟩
  rw [show q67 zeroSes = false by decide +kernel] at this
  exact Rets.args (qs := [zeroSes.pv]) ⟨q8s, trivial⟩ this
 have c13 : ∀ st, q5m st 0 = some (.arr T.t8uint32 Sha.start.row) → q5m st 1 = some q8z → Rets P F.q11 [ses2.pv] st (.int 0) := fun st h0 h1 => by
  have := k0p ses2 L2 st ⟨h0, h1⟩
  rw [q9g, if_pos rfl] at this
  exact this
 have c14 : ∀ st, Rets P F.q05 [Opd.lst false [⟨3, []⟩, ⟨3, []⟩], .list true [.int 3, .nil, .int 3, .nil] 2] st (.bool true) := fun st =>
  Rets.args (qs := [Opd.lst false [⟨3, []⟩, ⟨3, []⟩], Opd.lst true [⟨3, []⟩, ⟨3, []⟩]]) ⟨.refl _, .lists ⟨.refl _, .nil1, .refl _, .nil1, trivial⟩, trivial⟩ (k0r false true _ (by simp) (by simp) st)
 have c15 : ∀ st, Rets P F.q05 [Opd.lst false [⟨1, [9]⟩, ⟨3, []⟩], .list true [.int 1, .list true [.int 9] 1, .int 3, .nil] 2] st (.bool true) := fun st =>
  Rets.args (qs := [Opd.lst false [⟨1, [9]⟩, ⟨3, []⟩], Opd.lst true [⟨1, [9]⟩, ⟨3, []⟩]]) ⟨.refl _, .lists ⟨.refl _, .loose, .refl _, .nil1, trivial⟩, trivial⟩ (k0r false true _ (by simp) (by simp) st)
 simp only [List.cons_append, List.nil_append, List.tail_cons] at c4 c5 c8 c9 c10
 generalize Opd.lst false [⟨3, []⟩, ⟨3, []⟩] = O1 at *
 generalize Opd.lst false [⟨1, [9]⟩, ⟨3, []⟩] = O2 at *
 clear hG L2 L2L L9 L9L LN
 refine H.q3w.view q5d rfl rfl ?_
 repeat' (first 
  | (with_reducible refine Fresh.intro fun b hb => ?_) <;> (try simp -dsimp -implicitDefEqProofs [*] at hb)
  | (with_reducible refine Rets.xcall (c1 _ (by simp [*]) (by simp [*])) ?_)
  | (with_reducible refine Rets.xcall (c2 _ (by simp [*]) (by simp [*])) ?_)
  | (with_reducible refine Rets.xcall (c3 _ (by simp [*]) (by simp [*])) ?_)
  | (with_reducible refine Rets.xcall (c4 _ (by simp [*]) (by simp [*])) ?_)
  | (with_reducible refine Rets.xcall (c5 _ (by simp [*]) (by simp [*])) ?_)
  | (with_reducible refine Rets.xcall (c6 _ (by simp [*]) (by simp [*])) ?_)
  | (with_reducible refine Rets.xcall (c7 _ (by simp [*]) (by simp [*])) ?_)
  | (with_reducible refine Rets.xcall (c8 _ (by simp [*]) (by simp [*])) ?_)
  | (with_reducible refine Rets.xcall (c9 _ (by simp [*]) (by simp [*])) ?_)
  | (with_reducible refine Rets.xcall (c10 _ (by simp [*]) (by simp [*])) ?_)
  | (with_reducible refine Rets.xcall (c11 _ (by simp [*]) (by simp [*])) ?_)
  | (with_reducible refine Rets.xcall (c12 _ (by simp [*]) (by simp [*])) ?_)
  | (with_reducible refine Rets.xcall (c13 _ (by simp [*]) (by simp [*])) ?_)
  | (with_reducible refine Rets.xcall (c14 _) ?_)
  | (with_reducible refine Rets.xcall (c15 _) ?_)
  | (with_reducible refine Lit.imm ?_)
  | (simp -dsimp -implicitDefEqProofs [*]))
 exact RetView.drop (st' := st) q5l ⟨rfl, rfl⟩
open Go.Pv
set_option maxRecDepth 100000
set_option maxHeartbeats 16000000
structure Wide (s : Ses) : Prop where
 c : -9223372036854775808 ≤ s.crits ∧ s.crits < 9223372036854775808
 n : -9223372036854775808 ≤ s.need ∧ s.need < 9223372036854775808
open Go.Pv Go.Pv.Ip
set_option maxRecDepth 100000
abbrev ptC (p q : Pt) : Int := k0s p.X q.X
theorem kc_pt : Kc ptC where
 tr x y z h k := by rw [q6j] at *; omega
 sw x y := by rw [k9k, q6j]
 eq x y z e := by rw [q6j, q6j, cmpI_eq.1 e]
theorem y0x {ks : List Sh} (hk : ks.Pairwise fun x y => q9k x y < 0) {j c : Int} {S : List Int} (hS : S.Pairwise fun x y => x < y) {F : Int → Int} (hm : ∀ h v, (⟨j, c, h, v⟩ : Sh) ∈ ks ↔ h ∈ S ∧ v = F h) : k3s j c ks = S.map fun h => ⟨h + 1, F h⟩ := by
 refine kc_pt.ext ((k9p (k5x hk) j c).imp fun h => q6j.2 h) ?_ fun p => ?_
 ·rw [List.pairwise_map]
  exact hS.imp fun h => q6j.2 (by simp only; omega)
 ·constructor
  ·intro hp
   obtain ⟨x, hx, rfl, rfl, rfl⟩ := z3p hp
   obtain ⟨h1, h2⟩ := (hm x.h x.v).1 hx
   exact List.mem_map.2 ⟨x.h, h1, by rw [← h2]⟩
  ·intro hp
   obtain ⟨h, hh, rfl⟩ := List.mem_map.1 hp
   have := (hm h (F h)).2 ⟨hh, rfl⟩
   unfold k3s
   refine List.mem_map.2 ⟨_, List.mem_filter.2 ⟨this, ?_⟩, rfl⟩
   simp [isK]
theorem j6u {ks : List Sh} {j c : Int} {S : List Int} (hS : S.Pairwise fun x y => x < y) (hr : ∀ h ∈ S, 0 ≤ h ∧ h < 256) {F : Int → Int} (he : k3s j c ks = S.map fun h => ⟨h + 1, F h⟩) {p : List Int} (hF : ∀ h ∈ S, F h = ev p (h + 1) % Qi) {n : Nat} (hp : p.length ≤ n) (hn : n ≤ S.length) : j09 j c ks n = some (ev p 0 % Qi) := by
 unfold j09
 rw [if_neg (by rw [he, List.length_map]; omega), he]
 have hL : ∀ q ∈ S.map (fun h => (⟨h + 1, F h⟩ : Pt)), (0 ≤ q.X ∧ q.X ≤ 256) ∧ q.Y = ev p q.X % Qi := fun q hq => by
  obtain ⟨h, hh, rfl⟩ := List.mem_map.1 hq
  have := hr h hh
  exact ⟨by simp only; omega, hF h hh⟩
 have hrise : (S.map fun h => (⟨h + 1, F h⟩ : Pt)).Pairwise fun p q => p.X < q.X := by
  rw [List.pairwise_map]
  exact hS.imp fun h => by simp only; omega
 have hlen : (S.map fun h => (⟨h + 1, F h⟩ : Pt)).length = S.length := List.length_map ..
 generalize (S.map fun h => (⟨h + 1, F h⟩ : Pt)) = L at *
 have hA : (L.take n).length = n := by rw [List.length_take]; omega
 have hg : GoodP (q6y (L.take n)) := z7g (hrise.sublist (List.take_sublist _ _)) fun q hq => (hL q (List.mem_of_mem_take hq)).1
 have hat : ∀ z, atV (q6y (L.take n)) z = ev p z % Qi := fun z => j23 hg (by rw [q71, hA]; exact hp) (fun i hi => by
  rw [q71] at hi
  rw [Ip.X, Ip.Y, q9j hi]
  simp only
  rw [(hL _ (List.mem_of_mem_take (List.getElem_mem hi))).2]
  exact Cg.mod _) z
 rw [if_pos]
 ·rw [hat]
 ·refine List.all_eq_true.2 fun q hq => decide_eq_true ?_
  rw [hat, (hL q (List.mem_of_mem_drop hq)).2]
theorem k9v {s : Ses} {j : Int} {keys : List Int} (h : ∀ c (hc : c < keys.length), j09 j c s.keys s.need.toNat = some keys[c]) : ∀ k, k ≤ keys.length → q8b s j k = some (keys.take k)
 | 0, _ => rfl
 | k + 1, hk => by
  rw [q8b, k9v h k (by omega), h k (by omega)]
  simp only
  rw [List.take_succ_eq_append_getElem (by omega)]
theorem j0z {s : Ses} {j : Int} {keys : List Int} (h : ∀ c (hc : c < keys.length), j09 j c s.keys s.need.toNat = some keys[c]) : q8b s j keys.length = some keys := by
 rw [k9v h _ (Nat.le_refl _), List.take_length]
def q9w (c m : List Int) : List Int := List.zipWith (fun x y => (x - y) % Qi) c m
theorem j6v {x y : Int} (hx : 0 ≤ x) (hx2 : x ≤ 1073741788) (hy : 0 ≤ y) (hy2 : y ≤ 1000) : z29 x ((x - y) % Qi) = y := by
 unfold z29 QI Qi
 split <;> omega
theorem j39 {r e j : Int} {c m : List Int} (hc : chk r e j c = true) (hl : m.length = c.length) (hm : ∀ y ∈ m, 0 ≤ y ∧ y ≤ 1000) : q9z r e j c (q9w c m) = some m := by
 have hc2 : q6x c 1073741788 = true := by
  unfold chk at hc
  exact (Bool.and_eq_true_iff.1 hc).2
 have hb := q5w hc2
 have hn := k1n hc2
 have hkl : (q9w c m).length = c.length := by simp [q9w, hl]
 have e : q62 c (q9w c m) = m := by
  unfold q62
  refine List.ext_getElem (by rw [List.length_zipWith, hkl]; omega) fun i h1 h2 => ?_
  have hi : i < c.length := by omega
  rw [List.getElem_zipWith]
  unfold q9w
  rw [List.getElem_zipWith]
  have a := hb _ (List.getElem_mem hi)
  have b := hm _ (List.getElem_mem h2)
  exact j6v a.1 a.2 b.1 b.2
 unfold q9z
 rw [e]
 have hw : ∀ {l : List Int} {most : Int}, 1 ≤ l.length → l.length ≤ 64 → (∀ x ∈ l, 0 ≤ x ∧ x ≤ most) → q6x l most = true := fun {l most} h1 h2 h3 => by
  unfold q6x
  simp only [Bool.and_eq_true, decide_eq_true_eq, List.all_eq_true]
  exact ⟨⟨h1, h2⟩, fun x hx => by unfold wi; have := h3 x hx; simp [this.1, this.2]⟩
 rw [if_pos]
 unfold q55
 simp only [Bool.and_eq_true, decide_eq_true_eq]
 refine ⟨⟨⟨hc, hw (by omega) (by omega) fun x hx => ?_⟩, hkl⟩, hw (by omega) (by omega) hm⟩
 unfold q9w at hx
 rw [← List.map_uncurry_zip_eq_zipWith] at hx
 obtain ⟨p, -, rfl⟩ := List.mem_map.1 hx
 have := k25 (p.1 - p.2)
 simp only [Function.uncurry]
 unfold Qi at *
 omega
end Go.Proofs.YtnooplpbpfiapaaGreatDoor
