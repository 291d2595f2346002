/- Keys out of shares, marks out of keys: plain. -/
import Derived.Test.YtnooplpbpfiapaaGreatDoorG36AE
namespace Go.Proofs.YtnooplpbpfiapaaGreatDoor
open Go.Pv Go.Pv.Ip
set_option maxRecDepth 100000
abbrev ptC (p q : Pt) : Int := q9a p.X q.X
theorem kc_pt : Kc ptC where
 tr x y z h k := by rw [q56] at *; omega
 sw x y := by rw [k7t, q56]
 eq x y z e := by rw [q56, q56, cmpI_eq.1 e]
theorem j8x {ks : List Sh} (hk : ks.Pairwise fun x y => k0o x y < 0) {j c : Int} {S : List Int} (hS : S.Pairwise fun x y => x < y) {F : Int → Int} (hm : ∀ h v, (⟨j, c, h, v⟩ : Sh) ∈ ks ↔ h ∈ S ∧ v = F h) : k47 j c ks = S.map fun h => ⟨h + 1, F h⟩ := by
 refine kc_pt.ext ((z3d (k39 hk) j c).imp fun h => q56.2 h) ?_ fun p => ?_
 ·rw [List.pairwise_map]
  exact hS.imp fun h => q56.2 (by simp only; omega)
 ·constructor
  ·intro hp
   obtain ⟨x, hx, rfl, rfl, rfl⟩ := z64 hp
   obtain ⟨h1, h2⟩ := (hm x.h x.v).1 hx
   exact List.mem_map.2 ⟨x.h, h1, by rw [← h2]⟩
  ·intro hp
   obtain ⟨h, hh, rfl⟩ := List.mem_map.1 hp
   have := (hm h (F h)).2 ⟨hh, rfl⟩
   unfold k47
   refine List.mem_map.2 ⟨_, List.mem_filter.2 ⟨this, ?_⟩, rfl⟩
   simp [isK]
theorem j4v {j c : Int} {ks : List Sh} {n : Nat} (h : (k47 j c ks).length < n) : z3k j c ks n = none := by
 unfold z3k
 rw [if_pos h]
theorem j4w {ks : List Sh} {j c : Int} {S : List Int} (hS : S.Pairwise fun x y => x < y) (hr : ∀ h ∈ S, 0 ≤ h ∧ h < 256) {F : Int → Int} (he : k47 j c ks = S.map fun h => ⟨h + 1, F h⟩) {p : List Int} (hF : ∀ h ∈ S, F h = ev p (h + 1) % Qi) {n : Nat} (hp : p.length ≤ n) (hn : n ≤ S.length) : z3k j c ks n = some (ev p 0 % Qi) := by
 unfold z3k
 rw [if_neg (by rw [he, List.length_map]; omega), he]
 have hL : ∀ q ∈ S.map (fun h => (⟨h + 1, F h⟩ : Pt)), (0 ≤ q.X ∧ q.X ≤ 256) ∧ q.Y = ev p q.X % Qi := fun q hq => by
  obtain ⟨h, hh, rfl⟩ := List.mem_map.1 hq
  have := hr h hh
  exact ⟨by simp only; omega, hF h hh⟩
 have hrise : (S.map fun h => (⟨h + 1, F h⟩ : Pt)).Pairwise fun p q => p.X < q.X := by
  rw [List.pairwise_map]
  exact hS.imp fun h => by simp only; omega
 have hlen : (S.map fun h => (⟨h + 1, F h⟩ : Pt)).length = S.length := List.length_map ..
 generalize (S.map fun h => (⟨h + 1, F h⟩ : Pt)) = L at *
 have hA : (L.take n).length = n := by rw [List.length_take]; omega
 have hg : GoodP (q57 (L.take n)) := j1z (hrise.sublist (List.take_sublist _ _)) fun q hq => (hL q (List.mem_of_mem_take hq)).1
 have hat : ∀ z, atV (q57 (L.take n)) z = ev p z % Qi := fun z => j05 hg (by rw [q7o, hA]; exact hp) (fun i hi => by
  rw [q7o] at hi
  rw [Ip.X, Ip.Y, q8r hi]
  simp only
  rw [(hL _ (List.mem_of_mem_take (List.getElem_mem hi))).2]
  exact Cg.mod _) z
 rw [if_pos]
 ·rw [hat]
 ·refine List.all_eq_true.2 fun q hq => decide_eq_true ?_
  rw [hat, (hL q (List.mem_of_mem_drop hq)).2]
theorem k70 {s : Ses} {j : Int} {keys : List Int} (h : ∀ c (hc : c < keys.length), z3k j c s.keys s.need.toNat = some keys[c]) : ∀ k, k ≤ keys.length → q58 s j k = some (keys.take k)
 | 0, _ => rfl
 | k + 1, hk => by
  rw [q58, k70 h k (by omega), h k (by omega)]
  simp only
  rw [List.take_succ_eq_append_getElem (by omega)]
theorem z8x {s : Ses} {j : Int} {keys : List Int} (h : ∀ c (hc : c < keys.length), z3k j c s.keys s.need.toNat = some keys[c]) : q58 s j keys.length = some keys := by
 rw [k70 h _ (Nat.le_refl _), List.take_length]
theorem j13 {s : Ses} {j : Int} (h : z3k j 0 s.keys s.need.toNat = none) {n : Nat} (hn : 1 ≤ n) : q58 s j n = none := by
 have e : q58 s j 1 = none := by
  rw [q58, q58]
  simp only
  have : z3k j ((0 : Nat) : Int) s.keys s.need.toNat = none := h
  rw [this]
 have := k22 e (n - 1)
 rwa [show 1 + (n - 1) = n by omega] at this
open Go.Pv Go.Pv.Ip
set_option maxRecDepth 100000
section
variable (s : Ses) (w : Int) (x : Card) (marks : List Int)
end
section
variable {s : Ses} {w : Int} {x : Card} {marks : List Int}
theorem j14 (h : RightP s) : s.judges.Pairwise fun a b => a < b :=
 (q6p (c := q9a) (fun x y z h k => by rw [q56] at *; omega) h.judges).imp fun h => q56.1 h
end
open Go.Pv Go.Pv.Sha
set_option maxRecDepth 100000
theorem j15 {x y : Int} (hx : 0 ≤ x) (hx2 : x ≤ 1000) (hy : 0 ≤ y) (hy2 : y ≤ 1073741788) : j8b ((x + y) % QI) y = x := by
 unfold j8b QI
 split <;> omega
theorem z1t {l : List Int} {most : Int} (h1 : 1 ≤ l.length) (h2 : l.length ≤ 64) (h3 : ∀ x ∈ l, 0 ≤ x ∧ x ≤ most) : q7s l most = true := by
 unfold q7s
 simp only [Bool.and_eq_true, decide_eq_true_eq, List.all_eq_true]
 exact ⟨⟨h1, h2⟩, fun x hx => by unfold wi; have := h3 x hx; simp [this.1, this.2]⟩
structure BackF (r e j : Int) (m k : List Int) (salt : List (BitVec 8)) : Prop where
 make : y5c r e j m k = true
 ope : z1d r e j (q8l m k) (j6f r e j m k salt) k salt = some m
 strip : q9l r e j (q8l m k) k = some m
 chk : chk r e j (q8l m k) = true
theorem k93 {r e j : Int} {m k : List Int} {salt : List (BitVec 8)} (hp : q6o r e j = true) (h1 : q7s m 1000 = true) (h2 : q7s k 1073741788 = true) (h3 : m.length = k.length) : BackF r e j m k salt := by
 have hb : q95 (q8l m k) k = m := by
  refine List.ext_getElem (by simp [q95, q8l, h3]) fun i hi hi2 => ?_
  have hik : i < k.length := by omega
  have b1 := q45 h1 _ (List.getElem_mem hi2)
  have b2 := q45 h2 _ (List.getElem_mem hik)
  simp only [q95, q8l, List.getElem_zipWith]
  exact j15 b1.1 b1.2 b2.1 b2.2
 have l1 := k34 h1
 have hl : (q8l m k).length = m.length := by simp [q8l, h3]
 have hc : q7s (q8l m k) 1073741788 = true := by
  refine z1t (by omega) (by omega) fun n hn => ?_
  obtain ⟨i, hi, rfl⟩ := List.mem_iff_getElem.1 hn
  simp only [q8l, List.getElem_zipWith]
  unfold QI
  omega
 have hk : Go.Proofs.YtnooplpbpfiapaaGreatDoor.chk r e j (q8l m k) = true := by simp [Go.Proofs.YtnooplpbpfiapaaGreatDoor.chk, hp, hc]
 have hbo : q6i r e j (q8l m k) k = true := by simp [q6i, hk, h2, hl, h3]
 refine ⟨by simp [y5c, hp, h1, h2, h3], ?_, ?_, hk⟩
 ·unfold z1d
  rw [hb, hbo, h1]
  simp
 ·unfold q9l
  rw [hb, hbo, h1]
  simp
end Go.Proofs.YtnooplpbpfiapaaGreatDoor
