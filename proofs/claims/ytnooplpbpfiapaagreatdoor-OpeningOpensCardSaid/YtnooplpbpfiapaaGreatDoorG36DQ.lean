/- OpeningOpens: steps of giving. -/
import Derived.Test.YtnooplpbpfiapaaGreatDoorG36DE
import Derived.Test.YtnooplpbpfiapaaGreatDoorG36BF
import Derived.Test.YtnooplpbpfiapaaGreatDoorS36ZA
namespace Go.Proofs.YtnooplpbpfiapaaGreatDoor
open Go.Pv Go.Pv.Ip
set_option maxRecDepth 100000
set_option maxHeartbeats 16000000
theorem GiveI.skipK {p : Pan} {sh gv : Nat → Bool} {L : List Card} {k k2 : Nat} {Sw : List Shn} {K : List Sh} (h : GiveI p sh gv L k k2 0 0 Sw K) (hg : gv k = false) : GiveI p sh gv L (k + 1) k2 0 0 Sw K :=
 h.mono (by omega) fun t b d h1 h2 h3 h4 h5 => by
  have : t ≠ k := fun e => by rw [e, hg] at h5; cases h5
  omega
theorem GiveI.nextK {p : Pan} {sh gv : Nat → Bool} {L : List Card} {k k2 : Nat} {Sw : List Shn} {K : List Sh} (h : GiveI p sh gv L k k2 p.J.length 0 Sw K) (hn : p.J.length ≤ 5) : GiveI p sh gv L (k + 1) k2 0 0 Sw K :=
 h.mono (by omega) fun t b d h1 h2 h3 h4 h5 => by omega
theorem GiveI.skipC {p : Pan} {sh gv : Nat → Bool} {L : List Card} {k k2 a c : Nat} {Sw : List Shn} {K : List Sh} (h : GiveI p sh gv L k k2 a c Sw K) (he : a = k) : GiveI p sh gv L k k2 a (c + 1) Sw K :=
 h.mono (by omega) fun t b d h1 h2 h3 h4 h5 => by omega
theorem GiveI.nextA {p : Pan} {sh gv : Nat → Bool} {L : List Card} {k k2 a : Nat} {Sw : List Shn} {K : List Sh} (h : GiveI p sh gv L k k2 a p.C Sw K) (hc : p.C ≤ 3) : GiveI p sh gv L k k2 (a + 1) 0 Sw K :=
 h.mono (by omega) fun t b d h1 h2 h3 h4 h5 => by omega
theorem z5w {p : Pan} {sh : Int} {gv : Nat → Bool} {L : List Card} {k : Nat} {Sw : List Shn} {K : List Sh} (H : p.Ok) (A : AllS p L) (h : GiveI p (q9s sh) gv L k k 0 0 Sw K) (hk : k < p.J.length) {Z : Ses} (hZ : Z = p.ses L Sw K) :
  ∃ Sw' Z', Z' = p.ses L Sw' K ∧ GiveI p (q9s sh) gv L k (k + 1) 0 0 Sw' K ∧ (z85 sh k = 0 ∧ Z' = Z ∨ z85 sh k = 1 ∧ ∀ st, q4n st 0 = some (.arr T.t8uint32 Sha.start.row) → q4n st 1 = some q6d → Rets P F.q03 [Z.pv, .agg (q4a (.int 4 :: .int 0 :: (q5v ++ ([.int 0, .int 0, .int 0, .int 0] ++ (.int 0 :: .nil :: zz)))) 42 (.int (p.j k) :: q4b false (p.Kk k) :: q38 (p.Sa k).1))] st (.tuple [Z'.pv, .int 0])) := by
 rcases z1y sh k with hs | hs
 ·exact ⟨Sw, Z, hZ, h.skipShow (by unfold q9s; rw [hs]; rfl), .inl ⟨hs, rfl⟩⟩
 ·obtain ⟨Sw', Z', e1, e2, e3⟩ := z86 H A h hk (by unfold q9s; rw [hs]; rfl) hZ
  exact ⟨Sw', Z', e1, e2, .inr ⟨hs, e3⟩⟩
theorem z5x {J : List Int} {C m : Nat} {mk kk : List (List Int)} {sa : List Dig} {mo : List (List (List Int))} (H : (q6e J C m mk kk sa mo).Ok) (hF : Fits mk kk sa mo J.length C m) {a c k : Nat} (ha : a < J.length) (hc : c < C) (hk : k < J.length) (st : q37) :
  Rets P F.q08 [y6w mk kk sa mo, .int ((q6e J C m mk kk sa mo).j a), .int a, .int c, .int ((q6e J C m mk kk sa mo).j k)] st (.agg [.int ((q6e J C m mk kk sa mo).j a), .int c, .int ((q6e J C m mk kk sa mo).j k), .int ((q6e J C m mk kk sa mo).val a c k)]) := by
 have hl := hF.l
 have f := hF.a a ha
 have hm := H.m
 have hn := H.n
 have hn : J.length ≤ 5 := hn.2
 have hm : m + 1 ≤ J.length := hm.2
 have hm1 := H.fo a c ha hc
 have e : ∀ {α : Type} (l : List α) (d : α) (t : Nat), t < l.length → l[t]? = some (l.getD t d) := fun l d t h => by rw [q6y h, List.getElem?_eq_getElem h]
 exact z5o mk kk sa mo _ a c _ (H.jin hk) (e kk [] a (by omega)) (e mo [] a (by omega)) (e _ 0 c (by rw [f.l.2.1]; exact hc)) (e _ [] c (by rw [f.l.2.2]; exact hc)) (by
  have : ((mo.getD a []).getD c []).length + 1 = m := hm1
  omega) st
open Go.Pv Go.Pv.Ip
set_option maxRecDepth 100000
set_option maxHeartbeats 16000000
structure PanH (J : List Int) (C m : Nat) (mk kk : List (List Int)) (sa : List Dig) (mo : List (List (List Int))) (l : List Card) (p : Pan) : Prop where
 e : p = q6e J C m mk kk sa mo
 ok : p.Ok
 fit : Fits mk kk sa mo J.length C m
 all : AllS p l
section
variable {J : List Int} {C m : Nat} {mk kk : List (List Int)} {sa : List Dig} {mo : List (List (List Int))} {l : List Card} {p : Pan} (h : PanH J C m mk kk sa mo l p)
include h
theorem PanH.j : p.J = J := by rw [h.e]; rfl
theorem PanH.c : p.C = C := by rw [h.e]; rfl
theorem PanH.md : p.m = m := by rw [h.e]; rfl
theorem PanH.at {t : Nat} (ht : t < J.length) : J[t]? = some (p.j t) ∧ mk[t]? = some (p.Mk t) ∧ kk[t]? = some (p.Kk t) ∧ sa[t]? = some (p.Sa t) := by
 rw [h.e]
 exact y3m h.fit ht
theorem z88 {sh : Int} {gv : Nat → Bool} {k : Nat} {Sw : List Shn} {K : List Sh} {Z : Ses} (hk : k < J.length) (hJ : GiveI p (q9s sh) gv l k k 0 0 Sw K) (hZ : Z = p.ses l Sw K) :
  ∃ (jk : Int) (Kk : List Int) (Sk : Dig) (Sw1 : List Shn) (Z1 : Ses), Hid (jk = p.j k) ∧ (q43 J)[k]? = some (.int jk) ∧ (lls kk)[k]? = some (q4b false Kk) ∧ sub (digs sa) (k * 32) 32 = some (q38 Sk.1) ∧ Sk.1.length = 32 ∧ k < kk.length ∧ k < sa.length ∧ Hid (Z1 = p.ses l Sw1 K) ∧ Hid (GiveI p (q9s sh) gv l k (k + 1) 0 0 Sw1 K) ∧
   (z85 sh k = 0 ∧ Z1 = Z ∨ z85 sh k = 1 ∧ ∀ st, q4n st 0 = some (.arr T.t8uint32 Sha.start.row) → q4n st 1 = some q6d → Rets P F.q03 [Z.pv, .agg (q4a (.int 4 :: .int 0 :: (q5v ++ (.int 0 :: .int 0 :: .int 0 :: .int 0 :: .int 0 :: .nil :: zz))) 42 (.int jk :: q4b false Kk :: q38 Sk.1))] st (.tuple [Z1.pv, .int 0])) := by
 obtain ⟨a1, a2, a3, a4⟩ := h.at hk
 obtain ⟨Sw1, Z1, e1, e2, e3⟩ := z5w h.ok h.all hJ (by rw [h.j]; exact hk) hZ
 exact ⟨_, _, _, Sw1, Z1, ⟨rfl⟩, z1v a1, k94 a3, j2g a4, (p.Sa k).2, q64 a3, q64 a4, ⟨e1⟩, ⟨e2⟩, e3⟩
theorem z3h {a k : Nat} {jk : Int} (ha : a < J.length) (hk : k < J.length) (hjk : jk = p.j k) : ∃ ja, Hid (ja = p.j a) ∧ (q43 J)[a]? = some (.int ja) ∧ Hid (ja = jk ↔ a = k) :=
 ⟨p.j a, ⟨rfl⟩, z1v (h.at ha).1, ⟨by rw [hjk]; exact ⟨h.ok.jinj (by rw [h.j]; exact ha) (by rw [h.j]; exact hk), fun e => by rw [e]⟩⟩⟩
theorem k97 {sh : Int} {gv : Nat → Bool} {k k2 a c : Nat} {Sw : List Shn} {K : List Sh} {Z : Ses} {ja jk : Int} (hk : k < J.length) (hk2 : k2 ≤ 5) (ha : a < J.length) (hc : c < C) (hne : a ≠ k) (hg : gv k = true) (hja : ja = p.j a) (hjk : jk = p.j k) (hJ : GiveI p (q9s sh) gv l k k2 a c Sw K) (hZ : Z = p.ses l Sw K) :
  ∃ K' Z' v, Hid (Z' = p.ses l Sw K') ∧ Hid (GiveI p (q9s sh) gv l k k2 a (c + 1) Sw K') ∧
   (∀ st, Rets P F.q08 [y6w mk kk sa mo, .int ja, .int a, .int c, .int jk] st (.agg [.int ja, .int c, .int jk, .int v])) ∧
   ∀ st, q4n st 0 = some (.arr T.t8uint32 Sha.start.row) → q4n st 1 = some q6d → Rets P F.q03 [Z.pv, .agg (.int 3 :: .int 0 :: (q5v ++ (.int ja :: .int c :: .int jk :: .int v :: .int 0 :: .nil :: zz)))] st (.tuple [Z'.pv, .int 0]) := by
 obtain ⟨K', Z', e1, e2, e3⟩ := z87 h.ok h.all hJ (by rw [h.j]; exact hk) hk2 (by rw [h.j]; exact ha) (by rw [h.c]; exact hc) hne hg hZ
 have hok := h.ok
 have hs := fun st => z5x (by rw [← h.e]; exact hok) h.fit ha hc hk st
 rw [← h.e] at hs
 subst hja hjk
 exact ⟨K', Z', p.val a c k, ⟨e1⟩, ⟨e2⟩, hs, e3⟩
theorem j2h (hJl : J.length ≤ 5) {sh gv : Nat → Bool} {Sw : List Shn} {K : List Sh} {Z : Ses} (hJ : GiveI p sh gv l J.length J.length 0 0 Sw K) (hZ : Z = p.ses l Sw K) :
  ∃ O : List Opd, O.length = J.length ∧ Hid (∀ k (h : k < O.length), O[k] = p.want sh gv k) ∧
   ∀ st, q4n st 0 = some (.arr T.t8uint32 Sha.start.row) → q4n st 1 = some q6d → Rets P F.q2m [Z.pv] st (.tuple [Opd.lst false O, .int 0]) := by
 have hz := (hJ.zlen h.ok h.all (by omega))
 have hr : q5f (p.ses l Sw K) = true := (q5s _).2 hJ.r
 have e1 : k72 (p.ses l Sw K) = J.map (q7j (p.ses l Sw K)) := by
  unfold k72
  rw [if_pos hr]
  show p.J.map _ = _
  rw [h.j]
 have hdone := fun k (hk : k < J.length) => GiveI.done h.ok h.all (Sw := Sw) (K := K) (sh := sh) (gv := gv) (by rw [h.j]; exact hJ) (k := k) (by rw [h.j]; exact hk)
 obtain ⟨z1, z2, z3, z4⟩ := hz
 have p1 := fun st h0 h1 => k23 _ z1 z3 st ⟨h0, h1⟩
 rw [hr, if_pos rfl, e1, ← hZ] at p1
 rw [← hZ] at hdone
 refine ⟨J.map (q7j Z), List.length_map .., ⟨fun k hk => ?_⟩, p1⟩
 have hk2 : k < J.length := by rw [List.length_map] at hk; exact hk
 rw [List.getElem_map, ← hdone k hk2]
 have := (h.at hk2).1
 rw [List.getElem?_eq_getElem hk2] at this
 rw [Option.some.inj this]
end
def k74 (gv : Int) (k i : Nat) : Nat := ((List.range i).filter fun t => decide (t ≠ k) && q9s gv t).length
theorem j2i (gv : Int) (k i : Nat) : k74 gv k i ≤ i := Nat.le_trans (List.length_filter_le ..) (by simp)
theorem j2j (gv : Int) (k i : Nat) : k74 gv k (i + 1) = k74 gv k i + if i ≠ k ∧ z85 gv i = 1 then 1 else 0 := by
 unfold k74
 rw [List.range_succ, List.filter_append, List.length_append]
 congr 1
 unfold q9s
 by_cases h1 : i = k
 ·simp [h1]
 ·by_cases h2 : z85 gv i = 1
  ·simp [h1, h2]
  ·simp [h1, h2]
theorem j2k (gv : Int) (k : Nat) : k74 gv k 0 = 0 := rfl
section
variable {J : List Int} {C m : Nat} {mk kk : List (List Int)} {sa : List Dig} {mo : List (List (List Int))} {l : List Card} {p : Pan} (h : PanH J C m mk kk sa mo l p)
include h
theorem z89 (hC : C ≤ 3) {sh gv : Int} {O : List Opd} (hO : ∀ k (h : k < O.length), O[k] = p.want (q9s sh) (q9s gv) k) (hl : O.length = J.length) {k : Nat} (hk : k < J.length) :
  ∃ (M : List Int) (x : List PV), (lls mk)[k]? = some (q4b false M) ∧ k < mk.length ∧ List.drop (k * 2) (List.take ((k + 1) * 2) (Opd.row O)) = x ∧
   (z85 sh k = 1 ∧ (∀ st, Rets P F.q0g [.list false x 1, .list true [.int 1, q4b false M] 1] st (.bool true)) ∨
    z85 sh k = 0 ∧ (m ≤ k74 gv k J.length ∧ (∀ st, Rets P F.q0g [.list false x 1, .list true [.int 2, q4b false M] 1] st (.bool true)) ∨
     ¬ m ≤ k74 gv k J.length ∧ ∀ st, Rets P F.q0g [.list false x 1, .list true [.int 0, .nil] 1] st (.bool true))) := by
 obtain ⟨a1, a2, a3, a4⟩ := h.at hk
 have hkO : k < O.length := by omega
 have hf := h.ok.fm k (by rw [h.j]; exact hk)
 have hM : (p.Mk k).length ≤ 100000 := by rw [hf.1, h.c]; omega
 have e := hO k hkO
 have cS : ∀ n st, Rets P F.q0g [.list false [.int n, q4b false (p.Mk k)] 1, .list true [.int n, q4b false (p.Mk k)] 1] st (.bool true) := fun n st => q7q false true [⟨n, p.Mk k⟩] (by simp) (fun x hx => by rw [List.mem_singleton.1 hx]; show (p.Mk k).length ≤ _; omega) st
 have cN : ∀ st, Rets P F.q0g [.list false [.int 0, q4b false []] 1, .list true [.int 0, .nil] 1] st (.bool true) := fun st =>
  Rets.args (qs := [Opd.lst false [⟨0, []⟩], Opd.lst true [⟨0, []⟩]]) ⟨.refl _, .lists ⟨.refl _, .nil1, trivial⟩, trivial⟩ (q7q false true [⟨0, []⟩] (by simp) (fun x hx => by rw [List.mem_singleton.1 hx]; exact Nat.zero_le _) st)
 refine ⟨p.Mk k, O[k].enc, k94 a2, q64 a2, Opd.row_one O k hkO, ?_⟩
 rw [e]
 unfold Pan.want
 have ec : (p.oth (q9s gv) k).length = k74 gv k J.length := by
  unfold Pan.oth k74
  rw [h.j]
 rw [ec, h.md]
 rcases z1y sh k with c1 | c1
 ·right
  have : ¬ q9s sh k = true := by unfold q9s; simp [c1]
  rw [if_neg this]
  refine ⟨c1, ?_⟩
  by_cases c2 : m ≤ k74 gv k J.length
  ·rw [if_pos c2]; exact .inl ⟨c2, cS 2⟩
  ·rw [if_neg c2]; exact .inr ⟨c2, cN⟩
 ·left
  have : q9s sh k = true := by unfold q9s; rw [c1]; rfl
  rw [if_pos this]
  exact ⟨c1, cS 1⟩
end
end Go.Proofs.YtnooplpbpfiapaaGreatDoor
