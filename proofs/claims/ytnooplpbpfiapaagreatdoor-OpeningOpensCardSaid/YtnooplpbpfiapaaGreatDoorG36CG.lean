/- All judges seal, then show or give shares: plain. -/
import Derived.Test.YtnooplpbpfiapaaGreatDoorG36CD
import Derived.Test.YtnooplpbpfiapaaGreatDoorS36ZK
namespace Go.Proofs.YtnooplpbpfiapaaGreatDoor
open Go.Pv Go.Pv.Ip
set_option maxRecDepth 100000
structure Pan where
 J : List Int
 C : Nat
 m : Nat
 Mk : Nat → List Int
 Kk : Nat → List Int
 Sa : Nat → Dig
 Mo : Nat → Nat → List Int
section
variable (p : Pan)
def Pan.j (k : Nat) : Int := p.J.getD k 0
def Pan.s0 : Ses := z1m 1 2 p.C p.J p.m 100
def Pan.card (k : Nat) : Card := ⟨1, 2, p.j k, q8l (p.Mk k) (p.Kk k), ⟨j6f 1 2 (p.j k) (p.Mk k) (p.Kk k) (p.Sa k).1, rfl⟩⟩
def Pan.shn (k : Nat) : Shn := ⟨p.j k, p.Kk k, p.Sa k⟩
def Pan.poly (a c : Nat) : List Int := (p.Kk a).getD c 0 :: p.Mo a c
def Pan.val (a c t : Nat) : Int := ev (p.poly a c) (p.j t + 1) % Qi
def Pan.share (a c t : Nat) : Sh := ⟨p.j a, c, p.j t, p.val a c t⟩
def Pan.oth (gv : Nat → Bool) (k : Nat) : List Nat := (List.range p.J.length).filter fun i => decide (i ≠ k) && gv i
structure Pan.Ok : Prop where
 r : RightP p.s0
 n : 2 ≤ p.J.length ∧ p.J.length ≤ 5
 c : 1 ≤ p.C ∧ p.C ≤ 3
 m : 1 ≤ p.m ∧ p.m + 1 ≤ p.J.length
 fm : ∀ k, k < p.J.length → (p.Mk k).length = p.C ∧ ∀ x ∈ p.Mk k, 0 ≤ x ∧ x ≤ 1000
 fk : ∀ k, k < p.J.length → (p.Kk k).length = p.C ∧ ∀ x ∈ p.Kk k, 0 ≤ x ∧ x ≤ 1073741788
 fo : ∀ k c, k < p.J.length → c < p.C → (p.Mo k c).length + 1 = p.m
end
section
variable {p : Pan} (H : p.Ok)
include H
theorem Pan.Ok.jl {a b : Nat} (h : a < b) (hb : b < p.J.length) : p.j a < p.j b := by
 have := List.pairwise_iff_getElem.1 (j14 H.r) a b (show a < p.J.length by omega) hb h
 unfold Pan.j
 rw [List.getD_eq_getElem?_getD, List.getD_eq_getElem?_getD, List.getElem?_eq_getElem hb, List.getElem?_eq_getElem (show a < p.J.length by omega)]
 exact this
theorem Pan.Ok.jinj {a b : Nat} (ha : a < p.J.length) (hb : b < p.J.length) (e : p.j a = p.j b) : a = b := by
 rcases Nat.lt_trichotomy a b with h | h | h
 ·have := H.jl h hb; omega
 ·exact h
 ·have := H.jl h ha; omega
theorem Pan.Ok.jmem {k : Nat} (h : k < p.J.length) : p.j k ∈ p.J := by
 have _ := H.n
 unfold Pan.j
 rw [List.getD_eq_getElem?_getD, List.getElem?_eq_getElem h]
 exact List.getElem_mem h
theorem Pan.Ok.jin {k : Nat} (h : k < p.J.length) : 0 ≤ p.j k ∧ p.j k < 256 := H.r.judge _ (H.jmem h)
theorem Pan.Ok.back {k : Nat} (h : k < p.J.length) : BackF 1 2 (p.j k) (p.Mk k) (p.Kk k) (p.Sa k).1 := by
 have h1 := H.fm k h
 have h2 := H.fk k h
 have h3 := H.jin h
 have h4 := H.c
 refine k93 ?_ (z1t (by omega) (by omega) h1.2) (z1t (by omega) (by omega) h2.2) (by omega)
 unfold q6o wi
 simp
 omega
theorem Pan.Ok.clen {k : Nat} (h : k < p.J.length) : (p.card k).c.length = p.C := by
 have h1 := H.fm k h
 have h2 := H.fk k h
 show (q8l (p.Mk k) (p.Kk k)).length = p.C
 unfold q8l
 rw [List.length_zipWith]
 omega
end
structure SealI (p : Pan) (T : List Nat) (i : Nat) (l : List Card) : Prop where
 r : RightP { p.s0 with sealed := l }
 mem : ∀ y, y ∈ l ↔ ∃ t, t ∈ T.take i ∧ y = p.card t
 len : l.length = i
structure Perm (n : Nat) (T : List Nat) : Prop where
 len : T.length = n
 nd : T.Nodup
 lt : ∀ t ∈ T, t < n
theorem z8y {p : Pan} (H : p.Ok) (T : List Nat) : SealI p T 0 [] :=
 ⟨H.r, fun y => by simp, rfl⟩
theorem SealI.shut {p : Pan} {T : List Nat} {i : Nat} {l : List Card} (h : SealI p T i l) (hi : i < p.J.length) : q6g { p.s0 with sealed := l } = false := by
 unfold q6g
 have h1 : ¬ (100 : Int) ≤ 0 := by decide
 have h2 : ¬ (l.length : Int) = p.J.length := by have := h.len; omega
 show (decide ((100 : Int) ≤ 0) || decide ((l.length : Int) = p.J.length)) = false
 rw [decide_eq_false h1, decide_eq_false h2]
 rfl
theorem SealI.step {p : Pan} (H : p.Ok) {T : List Nat} (hT : Perm p.J.length T) {i : Nat} {l : List Card} (h : SealI p T i l) (hi : i < T.length) : ∃ l', k4b { p.s0 with sealed := l } (p.card T[i]) = .inl l' ∧ SealI p T (i + 1) l' := by
 have hti := hT.lt _ (List.getElem_mem hi)
 have hshut := h.shut (by have := hT.len; omega)
 have hno : ∀ t, t ∈ T.take i → t ≠ T[i] := fun t ht e => by
  obtain ⟨k, hk, rfl⟩ := List.mem_iff_getElem.1 ht
  rw [List.length_take] at hk
  rw [List.getElem_take] at e
  have := (List.pairwise_iff_getElem.1 hT.nd) k i (by omega) hi (by omega)
  exact this e
 have hlt : ∀ t, t ∈ T.take i → t < p.J.length := fun t ht => hT.lt t (List.mem_of_mem_take ht)
 have hb := H.back hti
 have hok : q8g { p.s0 with sealed := l } (p.card T[i]) = true := by
  unfold q8g
  simp only [Bool.and_eq_true, decide_eq_true_eq]
  refine ⟨⟨⟨⟨hb.chk, rfl⟩, rfl⟩, H.jmem hti⟩, ?_⟩
  show (((p.card T[i]).c.length : Nat) : Int) = p.C
  rw [H.clen hti]
 have hu : ∀ y ∈ ({ p.s0 with sealed := l } : Ses).sealed, y.j = (p.card T[i]).j → y = p.card T[i] := fun y hy e => by
  obtain ⟨t, ht, rfl⟩ := (h.mem y).1 hy
  exact absurd (H.jinj (hlt t ht) hti e) (hno t ht)
 obtain ⟨l', hl⟩ := j4s hshut hok hu
 have f := k90 h.r hl
 refine ⟨l', hl, h.r.dSeal hl, fun y => ?_, ?_⟩
 ·rw [f.mem, List.take_succ_eq_append_getElem hi]
  show (y ∈ l ∨ _) ↔ _
  rw [h.mem]
  constructor
  ·rintro (⟨t, ht, rfl⟩ | rfl)
   ·exact ⟨t, List.mem_append_left _ ht, rfl⟩
   ·exact ⟨T[i], List.mem_append_right _ (List.mem_singleton.2 rfl), rfl⟩
  ·rintro ⟨t, ht, rfl⟩
   rcases List.mem_append.1 ht with ht | ht
   ·exact .inl ⟨t, ht, rfl⟩
   ·rw [List.mem_singleton.1 ht]; exact .inr rfl
 ·rcases f.len with e | e
  ·exfalso
   have h1 : p.card T[i] ∈ l' := (f.mem _).2 (.inr rfl)
   rw [e] at h1
   obtain ⟨t, ht, e2⟩ := (h.mem _).1 h1
   exact hno t ht (H.jinj hti (hlt t ht) (congrArg Card.j e2)).symm
  ·rw [e]
   show l.length + 1 = i + 1
   rw [h.len]
structure AllS (p : Pan) (L : List Card) : Prop where
 r : RightP { p.s0 with sealed := L }
 mem : ∀ y, y ∈ L ↔ ∃ t, t < p.J.length ∧ y = p.card t
 opn : q6g { p.s0 with sealed := L } = true
 len : L.length = p.J.length
theorem k71 : ∀ (n : Nat) (T : List Nat), T.Nodup → T.length = n → (∀ t ∈ T, t < n) → ∀ t, t < n → t ∈ T
 | 0, _, _, _, _, t, ht => absurd ht (Nat.not_lt_zero t)
 | n + 1, T, hd, hl, hb, t, ht => by
  by_cases hn : n ∈ T
  ·by_cases e : t = n
   ·rw [e]; exact hn
   ·have h1 := k71 n (T.erase n) (hd.erase n) (by rw [List.length_erase_of_mem hn]; omega) (fun x hx => by
     have h2 := hb x (List.mem_of_mem_erase hx)
     have h3 := (hd.mem_erase_iff.1 hx).1
     omega) t (by omega)
    exact List.mem_of_mem_erase h1
  ·exfalso
   match T, hl with
   | a :: T', hl =>
    have hd' := List.nodup_cons.1 hd
    have ha : a < n := by
     have := hb a (List.mem_cons_self ..)
     have h2 : a ≠ n := fun e => hn (e ▸ List.mem_cons_self ..)
     omega
    have h1 := k71 n T' hd'.2 (by simpa using hl) (fun x hx => by
     have := hb x (List.mem_cons_of_mem _ hx)
     have h2 : x ≠ n := fun e => hn (e ▸ List.mem_cons_of_mem _ hx)
     omega) a ha
    exact hd'.1 h1
theorem j4x {n : Nat} {T : List Nat} (h : Perm n T) {t : Nat} (ht : t < n) : t ∈ T := k71 n T h.nd h.len h.lt t ht
theorem SealI.all {p : Pan} {T : List Nat} (hT : Perm p.J.length T) {l : List Card} (h : SealI p T p.J.length l) : AllS p l := by
 refine ⟨h.r, fun y => ?_, ?_, h.len⟩
 ·rw [h.mem, List.take_of_length_le (by rw [hT.len]; exact Nat.le_refl _)]
  constructor
  ·rintro ⟨t, ht, rfl⟩
   exact ⟨t, hT.lt t ht, rfl⟩
  ·rintro ⟨t, ht, rfl⟩
   exact ⟨t, j4x hT ht, rfl⟩
 ·unfold q6g
  have h2 : ((l.length : Nat) : Int) = p.J.length := by have := h.len; omega
  show (decide ((100 : Int) ≤ 0) || decide ((l.length : Int) = p.J.length)) = true
  rw [decide_eq_true h2, Bool.or_true]
def Pan.ses (p : Pan) (L : List Card) (Sw : List Shn) (K : List Sh) : Ses := { p.s0 with sealed := L, shown := Sw, keys := K }
structure GiveI (p : Pan) (sh gv : Nat → Bool) (L : List Card) (k k2 a c : Nat) (Sw : List Shn) (K : List Sh) : Prop where
 r : RightP (p.ses L Sw K)
 shn : ∀ y, y ∈ Sw ↔ ∃ t, t < k2 ∧ t < p.J.length ∧ sh t = true ∧ y = p.shn t
 key : ∀ y, y ∈ K ↔ ∃ t b d, t < p.J.length ∧ b < p.J.length ∧ d < p.C ∧ b ≠ t ∧ gv t = true ∧ (t < k ∨ t = k ∧ (b < a ∨ b = a ∧ d < c)) ∧ y = p.share b d t
 slen : Sw.length ≤ k2
 klen : K.length ≤ (k * 5 + a) * 3 + c
section
variable {p : Pan} (H : p.Ok) {sh gv : Nat → Bool} {L : List Card} (A : AllS p L)
theorem z8z (A : AllS p L) : GiveI p sh gv L 0 0 0 0 [] [] :=
 ⟨A.r, fun y => by simp, fun y => ⟨fun h => absurd h List.not_mem_nil, fun ⟨t, b, d, h⟩ => by omega⟩, Nat.le_refl _, Nat.zero_le _⟩
theorem AllS.opns (A : AllS p L) (Sw : List Shn) (K : List Sh) : q6g (p.ses L Sw K) = true := A.opn
theorem GiveI.mono {k k2 a c k' a' c' : Nat} {Sw : List Shn} {K : List Sh} (h : GiveI p sh gv L k k2 a c Sw K) (hl : (k * 5 + a) * 3 + c ≤ (k' * 5 + a') * 3 + c')
  (hk : ∀ t b d, t < p.J.length → b < p.J.length → d < p.C → b ≠ t → gv t = true → ((t < k ∨ t = k ∧ (b < a ∨ b = a ∧ d < c)) ↔ (t < k' ∨ t = k' ∧ (b < a' ∨ b = a' ∧ d < c')))) : GiveI p sh gv L k' k2 a' c' Sw K := by
 refine ⟨h.r, h.shn, fun y => ?_, h.slen, Nat.le_trans h.klen hl⟩
 rw [h.key]
 constructor
 ·rintro ⟨t, b, d, h1, h2, h3, h4, h5, h6, h7⟩
  exact ⟨t, b, d, h1, h2, h3, h4, h5, (hk t b d h1 h2 h3 h4 h5).1 h6, h7⟩
 ·rintro ⟨t, b, d, h1, h2, h3, h4, h5, h6, h7⟩
  exact ⟨t, b, d, h1, h2, h3, h4, h5, (hk t b d h1 h2 h3 h4 h5).2 h6, h7⟩
theorem GiveI.skipShow {k : Nat} {Sw : List Shn} {K : List Sh} (h : GiveI p sh gv L k k 0 0 Sw K) (hs : sh k = false) : GiveI p sh gv L k (k + 1) 0 0 Sw K := by
 refine ⟨h.r, fun y => ?_, h.key, by have := h.slen; omega, h.klen⟩
 rw [h.shn]
 constructor
 ·rintro ⟨t, h1, h2, h3, h4⟩
  exact ⟨t, by omega, h2, h3, h4⟩
 ·rintro ⟨t, h1, h2, h3, h4⟩
  refine ⟨t, ?_, h2, h3, h4⟩
  by_cases e : t = k
  ·rw [e, hs] at h3; cases h3
  ·omega
theorem GiveI.show (H : p.Ok) (A : AllS p L) {k : Nat} {Sw : List Shn} {K : List Sh} (h : GiveI p sh gv L k k 0 0 Sw K) (hk : k < p.J.length) (hs : sh k = true) :
  ∃ Sw', k4c (p.ses L Sw K) (p.shn k) = .inl Sw' ∧ GiveI p sh gv L k (k + 1) 0 0 Sw' K := by
 have hb := H.back hk
 have hcm : p.card k ∈ L := (A.mem _).2 ⟨k, hk, rfl⟩
 have hcd : q62 (p.ses L Sw K) (p.shn k).j = some (p.card k) := z3f (x := p.card k) A.r.cards hcm
 have hop : q9b (p.card k) (p.shn k) = some (p.Mk k) := hb.ope
 have hok : q7u (p.ses L Sw K) (p.shn k) = true := by
  unfold q7u
  rw [hcd]
  simp only
  rw [hop]
  rfl
 obtain ⟨Sw', hS⟩ := j4t (A.opns Sw K) hok fun y hy e => by
  obtain ⟨t, h1, h2, h3, rfl⟩ := (h.shn y).1 hy
  rw [H.jinj h2 hk e]
 have f := k92 h.r hS
 refine ⟨Sw', hS, h.r.dShow hS, fun y => ?_, h.key, ?_, h.klen⟩
 ·rw [f.mem]
  show (y ∈ Sw ∨ _) ↔ _
  rw [h.shn]
  constructor
  ·rintro (⟨t, h1, h2, h3, h4⟩ | rfl)
   ·exact ⟨t, by omega, h2, h3, h4⟩
   ·exact ⟨k, by omega, hk, hs, rfl⟩
  ·rintro ⟨t, h1, h2, h3, h4⟩
   by_cases e : t = k
   ·exact .inr (by rw [h4, e])
   ·exact .inl ⟨t, by omega, h2, h3, h4⟩
 ·have := h.slen
  rcases f.len with e | e
  ·rw [e]; show Sw.length ≤ _; omega
  ·have e2 : Sw'.length = Sw.length + 1 := e
   omega
theorem Pan.val_in (p : Pan) (a c t : Nat) : 0 ≤ p.val a c t ∧ p.val a c t < Qi := k3v _
theorem GiveI.give (H : p.Ok) (A : AllS p L) {k k2 a c : Nat} {Sw : List Shn} {K : List Sh} (h : GiveI p sh gv L k k2 a c Sw K) (hk : k < p.J.length) (ha : a < p.J.length) (hc : c < p.C) (hne : a ≠ k) (hg : gv k = true) :
  ∃ K', q98 (p.ses L Sw K) (p.share a c k) = .inl K' ∧ GiveI p sh gv L k k2 a (c + 1) Sw K' := by
 have hv := p.val_in a c k
 have hok : q6q (p.ses L Sw K) (p.share a c k) = true := by
  unfold q6q
  simp only [Bool.and_eq_true, decide_eq_true_eq, z5g]
  refine ⟨⟨⟨⟨H.jmem ha, H.jmem hk⟩, fun e => hne (H.jinj ha hk e)⟩, ?_⟩, hv.1, hv.2⟩
  show 0 ≤ (c : Int) ∧ (c : Int) < (p.C : Int)
  omega
 obtain ⟨K', hK⟩ := j10 (A.opns Sw K) hok fun y hy e => by
  obtain ⟨t, b, d, h1, h2, h3, h4, h5, h6, rfl⟩ := (h.key y).1 hy
  obtain ⟨e1, e2, e3⟩ := z1e.1 e
  have e1 := H.jinj h2 ha e1
  have e3 := H.jinj h1 hk e3
  have e2 : (d : Int) = (c : Int) := e2
  have e2 : d = c := by omega
  rw [e1, e2, e3]
 have f := k7y h.r hK
 refine ⟨K', hK, h.r.dShare hK, h.shn, fun y => ?_, h.slen, ?_⟩
 ·rw [f.mem]
  show (y ∈ K ∨ _) ↔ _
  rw [h.key]
  constructor
  ·rintro (⟨t, b, d, h1, h2, h3, h4, h5, h6, h7⟩ | rfl)
   ·exact ⟨t, b, d, h1, h2, h3, h4, h5, by omega, h7⟩
   ·exact ⟨k, a, c, hk, ha, hc, hne, hg, by omega, rfl⟩
  ·rintro ⟨t, b, d, h1, h2, h3, h4, h5, h6, h7⟩
   by_cases e : t = k ∧ b = a ∧ d = c
   ·obtain ⟨rfl, rfl, rfl⟩ := e
    exact .inr h7
   ·exact .inl ⟨t, b, d, h1, h2, h3, h4, h5, by omega, h7⟩
 ·have := h.klen
  rcases f.len with e | e
  ·rw [e]; show K.length ≤ _; omega
  ·have e2 : K'.length = K.length + 1 := e
   omega
def Pan.want (p : Pan) (sh gv : Nat → Bool) (k : Nat) : Opd := if sh k = true then ⟨1, p.Mk k⟩ else if p.m ≤ (p.oth gv k).length then ⟨2, p.Mk k⟩ else ⟨0, []⟩
theorem GiveI.done (H : p.Ok) (A : AllS p L) {Sw : List Shn} {K : List Sh} (h : GiveI p sh gv L p.J.length p.J.length 0 0 Sw K) {k : Nat} (hk : k < p.J.length) : q7j (p.ses L Sw K) (p.j k) = p.want sh gv k := by
 have hb := H.back hk
 have hcm : p.card k ∈ L := (A.mem _).2 ⟨k, hk, rfl⟩
 have hcd : q62 (p.ses L Sw K) (p.j k) = some (p.card k) := z3f (x := p.card k) A.r.cards hcm
 have hop : q9b (p.card k) (p.shn k) = some (p.Mk k) := hb.ope
 unfold Pan.want
 by_cases hs : sh k = true
 ·have hm : p.shn k ∈ Sw := (h.shn _).2 ⟨k, hk, hk, hs, rfl⟩
  have hsh : q7n (p.ses L Sw K) (p.j k) = some (p.shn k) := z8v (x := p.shn k) h.r.shows hm
  rw [z65 (A.opns Sw K) hcd hsh, hop, if_pos hs]
  rfl
 ·rw [if_neg hs]
  have hno : q7n (p.ses L Sw K) (p.j k) = none := by
   cases e : q7n (p.ses L Sw K) (p.j k) with
   | none => rfl
   | some y =>
    exfalso
    obtain ⟨e1, e2⟩ := z5l e
    obtain ⟨t, h1, h2, h3, rfl⟩ := (h.shn y).1 e2
    have := H.jinj h2 hk e1
    rw [this] at h3
    exact hs h3
  have hS : ((p.oth gv k).map p.j).Pairwise fun x y => x < y := by
   rw [List.pairwise_map]
   unfold Pan.oth
   refine List.Pairwise.imp_of_mem ?_ ((List.pairwise_lt_range (n := p.J.length)).sublist (List.filter_sublist (p := fun i => decide (i ≠ k) && gv i)))
   intro x y hx hy hxy
   exact H.jl hxy (List.mem_range.1 (List.mem_filter.1 hy).1)
  have hpts : ∀ c, c < p.C → k47 (p.j k) c K = ((p.oth gv k).map p.j).map fun x => ⟨x + 1, ev (p.poly k c) (x + 1) % Qi⟩ := fun c hc => by
   refine j8x h.r.shares hS (F := fun x => ev (p.poly k c) (x + 1) % Qi) fun x v => ?_
   constructor
   ·intro hy
    obtain ⟨t, b, d, h1, h2, h3, h4, h5, -, h7⟩ := (h.key _).1 hy
    have e1 : p.j k = p.j b := congrArg Sh.o h7
    have e2 : (c : Int) = (d : Int) := congrArg Sh.c h7
    have e3 : x = p.j t := congrArg Sh.h h7
    have e4 : v = p.val b d t := congrArg Sh.v h7
    have e1 := H.jinj hk h2 e1
    have e2 : c = d := by omega
    subst e1 e2 e3 e4
    refine ⟨List.mem_map.2 ⟨t, ?_, rfl⟩, rfl⟩
    unfold Pan.oth
    rw [List.mem_filter, List.mem_range]
    exact ⟨h1, by simp [h5, Ne.symm h4]⟩
   ·rintro ⟨hx, rfl⟩
    obtain ⟨t, ht, rfl⟩ := List.mem_map.1 hx
    unfold Pan.oth at ht
    rw [List.mem_filter, List.mem_range, Bool.and_eq_true, decide_eq_true_eq] at ht
    exact (h.key _).2 ⟨t, k, c, ht.1, hk, hc, Ne.symm ht.2.1, ht.2.2, .inl ht.1, rfl⟩
  have hkk := H.fk k hk
  have hmm := H.fm k hk
  have hC := H.c
  have hm1 := H.m
  have hneed : (p.ses L Sw K).need.toNat = p.m := by
   show ((p.m : Nat) : Int).toNat = p.m
   omega
  have hsh : k0r (p.ses L Sw K) (p.card k) = if p.m ≤ (p.oth gv k).length then some (p.Mk k) else none := by
   unfold k0r
   have e0 : (p.ses L Sw K).crits.toNat = (p.Kk k).length := by
    show ((p.C : Nat) : Int).toNat = _
    omega
   rw [e0]
   by_cases hle : p.m ≤ (p.oth gv k).length
   ·rw [if_pos hle]
    have hkeys : q58 (p.ses L Sw K) (p.card k).j (p.Kk k).length = some (p.Kk k) := by
     refine z8x fun c hc => ?_
     have hlen := H.fo k c hk (by omega)
     have key := j4w hS (fun a ha => by
      obtain ⟨t, ht, rfl⟩ := List.mem_map.1 ha
      exact H.jin (List.mem_range.1 (List.mem_filter.1 ht).1)) (hpts c (by omega)) (p := p.poly k c) (fun a _ => rfl) (n := p.m) (by
       show (p.Mo k c).length + 1 ≤ p.m
       omega) (by rw [List.length_map]; omega)
     rw [hneed]
     show z3k (p.j k) c K p.m = _
     rw [key]
     congr 1
     have e1 : ev (p.poly k c) 0 = (p.Kk k).getD c 0 := by
      unfold Pan.poly
      rw [ev]
      simp
     have e2 := hkk.2 _ (List.getElem_mem hc)
     rw [e1, List.getD_eq_getElem?_getD, List.getElem?_eq_getElem hc]
     show (p.Kk k)[c] % Qi = _
     exact Int.emod_eq_of_lt e2.1 (by unfold Qi; omega)
    rw [hkeys]
    exact hb.strip
   ·rw [if_neg hle]
    have hz := hpts 0 (by omega)
    have : q58 (p.ses L Sw K) (p.card k).j (p.Kk k).length = none := by
     refine j13 ?_ (by omega)
     rw [hneed]
     refine j4v ?_
     show (k47 (p.j k) ((0 : Nat) : Int) K).length < p.m
     rw [hz, List.length_map, List.length_map]
     omega
    rw [this]
  unfold q7j
  rw [if_pos (A.opns Sw K), hcd]
  simp only
  rw [hno]
  simp only
  rw [hsh]
  by_cases hle : p.m ≤ (p.oth gv k).length
  ·rw [if_pos hle, if_pos hle]
  ·rw [if_neg hle, if_neg hle]
   rfl
end
open Go.Pv Go.Pv.Ip
set_option maxRecDepth 100000
set_option maxHeartbeats 16000000
def lls (l : List (List Int)) : List PV := l.map (q4b false)
abbrev LL (l : List (List Int)) : PV := .list false (lls l) l.length
@[simp] theorem z80 (l : List (List Int)) : (lls l).length = l.length := by simp [lls]
theorem z5m (l : List (List Int)) (i : Nat) (h : i < l.length) : (lls l)[i]? = some (q4b false l[i]) := by simp [lls, h]
theorem z1u (l : List (List Int)) (i : Nat) (h : i < (lls l).length) : (lls l)[i]'h = q4b false (l[i]'(by rw [z80] at h; exact h)) := by simp [lls]
def j16 (l : List (List (List Int))) : List PV := l.map LL
abbrev LLL (l : List (List (List Int))) : PV := .list false (j16 l) l.length
@[simp] theorem z5n (l : List (List (List Int))) : (j16 l).length = l.length := by simp [j16]
theorem j4y (l : List (List (List Int))) (i : Nat) (h : i < l.length) : (j16 l)[i]? = some (LL l[i]) := by simp [j16, h]
theorem j17 (l : List (List (List Int))) (i : Nat) (h : i < (j16 l).length) : (j16 l)[i]'h = LL (l[i]'(by rw [z5n] at h; exact h)) := by simp [j16]
def digs (l : List Dig) : List PV := l.flatMap fun d => q38 d.1
abbrev DD (l : List Dig) : PV := .list false (digs l) l.length
theorem j18 (d : Dig) : (q38 d.1).length = 32 := by rw [q4j, d.2]
@[simp] theorem j8y (l : List Dig) : (digs l).length = l.length * 32 := q5m (fun d : Dig => q38 d.1) 32 j18 l
theorem j4z (l : List Dig) (i : Nat) (h : i < l.length) : sub (digs l) (i * 32) 32 = some (q38 l[i].1) := k0i (fun d : Dig => q38 d.1) 32 j18 l i h
theorem q6y {α : Type} {l : List α} {d : α} {i : Nat} (h : i < l.length) : l.getD i d = l[i] := by rw [List.getD_eq_getElem?_getD, List.getElem?_eq_getElem h]; rfl
structure Fits1 (M K : List Int) (O : List (List Int)) (c m : Nat) : Prop where
 l : M.length = c ∧ K.length = c ∧ O.length = c
 b : ∀ k, k < c → 0 ≤ M.getD k 0 ∧ M.getD k 0 ≤ 1000 ∧ 0 ≤ K.getD k 0 ∧ K.getD k 0 < 1073741789 ∧ (O.getD k []).length + 1 = m
structure Fits (mk kk : List (List Int)) (sa : List Dig) (mo : List (List (List Int))) (n c m : Nat) : Prop where
 l : mk.length = n ∧ kk.length = n ∧ sa.length = n ∧ mo.length = n
 a : ∀ j, j < n → Fits1 (mk.getD j []) (kk.getD j []) (mo.getD j []) c m
theorem j19 (mk kk : List (List Int)) (sa : List Dig) (mo : List (List (List Int))) (n c m : Nat) (hn : n ≤ 5) (hc : c ≤ 3) (hm : 1 ≤ m ∧ m ≤ 5) (r : Bool) (hr : r = true ↔ Fits mk kk sa mo n c m) (st : q37) :
  Rets P F.q1z [.agg [LL mk, LL kk, DD sa, LLL mo], .int n, .int c, .int m] st (.bool r) := by
 by_cases hl : mk.length = n ∧ kk.length = n ∧ sa.length = n ∧ mo.length = n
 case neg =>
  have e : r = false := by
   rw [← Bool.not_eq_true]
   exact fun h => hl (hr.1 h).l
  subst e
  clear hr
  refine H.q1z.view q4m rfl rfl ?_
  repeat' (first 
   | (with_reducible refine Fresh.intro fun b hb => ?_) <;> (try simp -dsimp -implicitDefEqProofs [*] at hb)
   | (with_reducible refine And.intro (fun h => ?_) (fun h => ?_)) <;> (try (exfalso; omega))
   | (simp -dsimp -implicitDefEqProofs [*]))
  all_goals first | exact RetView.drop (st' := st) q4p ⟨rfl, rfl⟩ | (exfalso; omega)
 obtain ⟨l1, l2, l3, l4⟩ := hl
 have hF : Hid ((∀ j, j < n → Fits1 (mk.getD j []) (kk.getD j []) (mo.getD j []) c m) → r = true) := ⟨fun h => hr.2 ⟨⟨l1, l2, l3, l4⟩, h⟩⟩
 have hN : Hid (∀ j, j < n → ¬ Fits1 (mk.getD j []) (kk.getD j []) (mo.getD j []) c m → r = false) := ⟨fun j hj h => by
  rw [← Bool.not_eq_true]
  exact fun h2 => h ((hr.1 h2).a j hj)⟩
 have hwm : IntKind.i64.wrap ((m : Int) - 1) = (m : Int) - 1 := q4h (by omega) (by omega)
 clear hr
 refine H.q1z.view q4m rfl rfl ?_
 repeat' (first 
  | (with_reducible refine Fresh.intro fun b hb => ?_) <;> (try simp -dsimp -implicitDefEqProofs [*] at hb)
  | (simp -dsimp -implicitDefEqProofs [*]))
 revert b; intro b1 hb1
 refine q4e (fun j : Nat => [(1, .int n), (2, .int c), (3, .int m), (4, .ptr b1 0), (37, .int n), (38, .int j)]) (fun _ => (b1, .arr T.q30 [LL mk, LL kk, DD sa, LLL mo]) :: st) (fun j => j ≤ n ∧ Hid (∀ i, i < j → Fits1 (mk.getD i []) (kk.getD i []) (mo.getD i []) c m)) (fun j => n - j) 0 ⟨Nat.zero_le _, ⟨fun i h => absurd h (Nat.not_lt_zero i)⟩⟩ (by simp) (.refl _) ?_
 rintro j ⟨hj, hJ⟩
 by_cases hjn : j < n
 case neg =>
  obtain rfl : j = n := by omega
  have e := hF.out hJ.out
  subst e
  clear hJ hF hN
  repeat' (simp -dsimp -implicitDefEqProofs [*])
  exact RetView.drop (st' := st) q4p ⟨rfl, rfl⟩
 have hwj := q4d (n := j) (by omega)
 have j1 : j < mk.length := by omega
 have j2 : j < kk.length := by omega
 have j3 : j < mo.length := by omega
 have g1 := z5m mk j j1
 have g2 := z5m kk j j2
 have g3 := j4y mo j j3
 have G1 : ∀ h, (lls mk)[j]'h = q4b false mk[j] := fun h => z1u mk j h
 have G2 : ∀ h, (lls kk)[j]'h = q4b false kk[j] := fun h => z1u kk j h
 have G3 : ∀ h, (j16 mo)[j]'h = LL mo[j] := fun h => j17 mo j h
 have hJ2 : Hid (Fits1 mk[j] kk[j] mo[j] c m → ∀ i, i < j + 1 → Fits1 (mk.getD i []) (kk.getD i []) (mo.getD i []) c m) := ⟨fun h i hi => if e : i = j then by subst e; rw [q6y j1, q6y j2, q6y j3]; exact h else hJ.out i (by omega)⟩
 have hN2 : Hid (¬ Fits1 mk[j] kk[j] mo[j] c m → r = false) := ⟨fun h => hN.out j hjn (by rw [q6y j1, q6y j2, q6y j3]; exact h)⟩
 obtain ⟨M, hM⟩ : ∃ M, M = mk[j] := ⟨_, rfl⟩
 obtain ⟨K, hK⟩ : ∃ K, K = kk[j] := ⟨_, rfl⟩
 obtain ⟨O, hO⟩ : ∃ O, O = mo[j] := ⟨_, rfl⟩
 rw [← hM] at g1 hJ2 hN2
 rw [← hK] at g2 hJ2 hN2
 rw [← hO] at g3 hJ2 hN2
 simp only [← hM] at G1
 simp only [← hK] at G2
 simp only [← hO] at G3
 clear hM hK hO hJ hF
 by_cases hl : M.length = c ∧ K.length = c ∧ O.length = c
 case neg =>
  have e := hN2.out fun h => hl h.l
  subst e
  clear hN2 hJ2 hN
  repeat' (first 
   | (with_reducible refine And.intro (fun h => ?_) (fun h => ?_)) <;> (try (exfalso; omega))
   | (simp -dsimp -implicitDefEqProofs [*]))
  all_goals first | exact RetView.drop (st' := st) q4p ⟨rfl, rfl⟩ | (exfalso; omega)
 obtain ⟨k1, k2, k3⟩ := hl
 repeat' (simp -dsimp -implicitDefEqProofs [*])
 refine q4e (fun k : Nat => [(1, .int n), (2, .int c), (3, .int m), (4, .ptr b1 0), (9, .int j), (37, .int n), (38, .int j), (69, .int c), (70, .int k)]) (fun _ => (b1, .arr T.q30 [LL mk, LL kk, DD sa, LLL mo]) :: st) (fun k => k ≤ c ∧ Hid (∀ i, i < k → 0 ≤ M.getD i 0 ∧ M.getD i 0 ≤ 1000 ∧ 0 ≤ K.getD i 0 ∧ K.getD i 0 < 1073741789 ∧ (O.getD i []).length + 1 = m)) (fun k => c - k) 0 ⟨Nat.zero_le _, ⟨fun i h => absurd h (Nat.not_lt_zero i)⟩⟩ (by simp) (.refl _) ?_
 rintro k ⟨hk, hI⟩
 by_cases hkc : k < c
 case neg =>
  obtain rfl : k = c := by omega
  have e := Hid.mk (hJ2.out ⟨⟨k1, k2, k3⟩, hI.out⟩)
  clear hJ2 hN2 hN hI
  repeat' (simp -dsimp -implicitDefEqProofs [*])
  exact Next.intro (j + 1) ⟨by omega, e⟩ (by omega) (by simp [*]) q4p
 have hwk := q4d (n := k) (by omega)
 have c1 : k < M.length := by omega
 have c2 : k < K.length := by omega
 have c3 : k < O.length := by omega
 have f1 := q5a M k c1
 have f2 := q5a K k c2
 have f3 := z5m O k c3
 have F1 : ∀ h, (q43 M)[k]'h = .int M[k] := fun h => q86 M k h
 have F2 : ∀ h, (q43 K)[k]'h = .int K[k] := fun h => q86 K k h
 have F3 : ∀ h, (lls O)[k]'h = q4b false O[k] := fun h => z1u O k h
 have hI2 : Hid ((0 ≤ M[k] ∧ M[k] ≤ 1000 ∧ 0 ≤ K[k] ∧ K[k] < 1073741789 ∧ O[k].length + 1 = m) → ∀ i, i < k + 1 → 0 ≤ M.getD i 0 ∧ M.getD i 0 ≤ 1000 ∧ 0 ≤ K.getD i 0 ∧ K.getD i 0 < 1073741789 ∧ (O.getD i []).length + 1 = m) := ⟨fun h i hi => if e : i = k then by subst e; rw [q6y c1, q6y c2, q6y c3]; exact h else hI.out i (by omega)⟩
 have hN3 : Hid (¬ (0 ≤ M[k] ∧ M[k] ≤ 1000 ∧ 0 ≤ K[k] ∧ K[k] < 1073741789 ∧ O[k].length + 1 = m) → r = false) := ⟨fun h => hN2.out fun h2 => h (by have := h2.b k hkc; rwa [q6y c1, q6y c2, q6y c3] at this)⟩
 obtain ⟨x, hx⟩ : ∃ x, x = M[k] := ⟨_, rfl⟩
 obtain ⟨y, hy⟩ : ∃ y, y = K[k] := ⟨_, rfl⟩
 obtain ⟨z, hz⟩ : ∃ z, z = O[k] := ⟨_, rfl⟩
 rw [← hx] at f1 hI2 hN3
 rw [← hy] at f2 hI2 hN3
 rw [← hz] at f3 hI2 hN3
 simp only [← hx] at F1
 simp only [← hy] at F2
 simp only [← hz] at F3
 clear hx hy hz hI hN hN2
 by_cases ok : 0 ≤ x ∧ x ≤ 1000 ∧ 0 ≤ y ∧ y < 1073741789 ∧ z.length + 1 = m
 case neg =>
  have e := hN3.out ok
  subst e
  clear hI2 hN3 hJ2
  repeat' (first 
   | (with_reducible refine And.intro (fun h => ?_) (fun h => ?_)) <;> (try (exfalso; omega))
   | (simp -dsimp -implicitDefEqProofs [*]))
  all_goals first | exact RetView.drop (st' := st) q4p ⟨rfl, rfl⟩ | (exfalso; omega)
 have e := Hid.mk (hI2.out ok)
 clear hI2 hN3 hJ2
 repeat' (first 
  | (with_reducible refine And.intro (fun h => ?_) (fun h => ?_)) <;> (try (exfalso; omega))
  | (with_reducible refine And.intro (fun h => ?_) ?_) <;> (try (exfalso; omega))
  | (simp -dsimp -implicitDefEqProofs [*]))
 all_goals first | exact Next.intro (k + 1) ⟨by omega, e⟩ (by omega) (by simp [*]) q4p | (exfalso; omega)
open Go.Pv Go.Pv.Ip
set_option maxRecDepth 100000
set_option maxHeartbeats 16000000
theorem q7p {α : Type} {L : List α} {i : Nat} {x : α} (h : L[i]? = some x) (h2 : i < L.length) : L[i]'h2 = x := by
 rw [List.getElem?_eq_getElem h2] at h
 exact Option.some.inj h
theorem k94 {l : List (List Int)} {i : Nat} {x : List Int} (h : l[i]? = some x) : (lls l)[i]? = some (q4b false x) := by simp [lls, h]
theorem j8z {l : List (List (List Int))} {i : Nat} {x : List (List Int)} (h : l[i]? = some x) : (j16 l)[i]? = some (LL x) := by simp [j16, h]
theorem z1v {l : List Int} {i : Nat} {x : Int} (h : l[i]? = some x) : (q43 l)[i]? = some (.int x) := by simp [q43, h]
theorem q64 {α : Type} {l : List α} {i : Nat} {x : α} (h : l[i]? = some x) : i < l.length := (List.getElem?_eq_some_iff.1 h).1
theorem z5o (mk kk : List (List Int)) (sa : List Dig) (mo : List (List (List Int))) (w : Int) (a c : Nat) (h : Int) (hw : 0 ≤ h ∧ h < 256) {K z : List Int} {O : List (List Int)} {y : Int} (hK : kk[a]? = some K) (hO : mo[a]? = some O) (hy : K[c]? = some y) (hz : O[c]? = some z) (hl : z.length ≤ 100) (st : q37) :
  Rets P F.q08 [.agg [LL mk, LL kk, DD sa, LLL mo], .int w, .int a, .int c, .int h] st (.agg [.int w, .int c, .int h, .int (ev (y :: z) (h + 1) % Qi)]) := by
 have g2 := k94 hK
 have g3 := j8z hO
 have f2 := z1v hy
 have f3 := k94 hz
 have G2 := q7p g2
 have G3 := q7p g3
 have F2 := q7p f2
 have F3 := q7p f3
 have k1 := q64 hK
 have k2 := q64 hO
 have k3 := q64 hy
 have k4 := q64 hz
 have hw1 : IntKind.i64.wrap (h + 1) = h + 1 := q4h (by omega) (by omega)
 clear hK hO hy hz
 have cv := fun t => z8s t (y :: z) (by simp; omega) (h + 1)
 have e1 : ∀ t, q4b t (y :: z) = .list t (.int y :: q43 z) (z.length + 1) := fun t => rfl
 simp only [e1] at cv
 refine H.q08.view q4m rfl rfl ?_
 repeat' (first 
  | (with_reducible refine Fresh.intro fun b hb => ?_) <;> (try simp -dsimp -implicitDefEqProofs [*] at hb)
  | ((with_reducible refine Grow.intro ?_ fun b cap hb hc1 hc2 => ?_); omega) <;> (try simp -dsimp -implicitDefEqProofs [*] at hb)
  | (with_reducible refine DrawLate.intro [] ?_)
  | (with_reducible refine k4r ?_ ?_)
  | (with_reducible exact Cls.self _ _)
  | (with_reducible refine q84 ?_ ?_)
  | (with_reducible refine And.intro (fun h => ?_) (fun h => ?_)) <;> (try (exfalso; omega))
  | (simp -dsimp -implicitDefEqProofs [*]))
 ·have hz0 : z = [] := by assumption
  subst hz0
  have cw := cv true
  clear cv
  refine Rets.xcall (cw _) ?_
  clear cw
  repeat' (simp -dsimp -implicitDefEqProofs [*])
  exact RetView.drop (st' := st) q4p ⟨rfl, rfl⟩
 ·have e2 : ∀ L : List PV, ((PV.int y :: (q43 z ++ L)).drop 0).take ((1 + z.length) * 1) = .int y :: q43 z := fun L => by
   rw [List.drop_zero, Nat.mul_one, Nat.add_comm, List.take_succ_cons, List.take_left' (by rw [k3t])]
  have hfr : ∀ L : List PV, Frz b (.arr T.int (.int y :: (q43 z ++ L))) (.own b 0 (1 + z.length) cap) (.list false (.int y :: q43 z) (1 + z.length)) := fun L => by
   have := Frz.own (b := b) (o := .arr T.int (.int y :: (q43 z ++ L))) T.int _ 0 (1 + z.length) cap 1 rfl hc1 hc2
   rwa [e2] at this
  have cw := cv false
  rw [Nat.add_comm] at cw
  refine k3s (b := b) (by simp [*]) (.refl _) (.cons (hfr _) (.cons (.refl _) .nil)) (cw _) ?_
  clear hfr e2 cv cw
  repeat' (simp -dsimp -implicitDefEqProofs [*])
  exact RetView.drop (st' := st) q4p ⟨rfl, rfl⟩
end Go.Proofs.YtnooplpbpfiapaaGreatDoor
