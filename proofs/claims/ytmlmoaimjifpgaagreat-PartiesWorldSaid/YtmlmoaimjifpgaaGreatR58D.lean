/- The reference's comparing of contests: empty ones are the same. -/
import Derived.Test.YtmlmoaimjifpgaaGreatA58A
namespace Go.Proofs.YtmlmoaimjifpgaaGreat
open Go.Pv Go.Pv.Cd
set_option maxRecDepth 100000
set_option maxHeartbeats 4000000
abbrev y3e : List PV := [.val (.string ⟨#[]⟩), .nil, .nil, .nil, .nil, .nil, .nil, .nil, .int 0]
abbrev j45 : List PV := [.val (.string ⟨#[]⟩), .nil, .nil, .nil, .nil, .nil, .nil, .nil, .int 0, .nil, .nil, .nil, .val (.int .u8 0), .val (.int .u8 0), .val (.int .u8 0), .val (.int .u8 0), .val (.int .u8 0), .val (.int .u8 0), .val (.int .u8 0), .val (.int .u8 0), .val (.int .u8 0), .val (.int .u8 0), .val (.int .u8 0), .val (.int .u8 0), .val (.int .u8 0), .val (.int .u8 0), .val (.int .u8 0), .val (.int .u8 0), .val (.int .u8 0), .val (.int .u8 0), .val (.int .u8 0), .val (.int .u8 0), .val (.int .u8 0), .val (.int .u8 0), .val (.int .u8 0), .val (.int .u8 0), .val (.int .u8 0), .val (.int .u8 0), .val (.int .u8 0), .val (.int .u8 0), .val (.int .u8 0), .val (.int .u8 0), .val (.int .u8 0), .val (.int .u8 0)]
theorem z59 (st : q43) : Rets P F.q1l [.nil, .nil] st (.bool true) := by
 refine H.q1l.view q5d rfl rfl ?_
 repeat' (simp -dsimp -implicitDefEqProofs [*])
 refine q44 (fun _ : Unit => [(0, .nil), (1, .nil), (5, .int 0)]) (fun _ => st) (fun _ => True) (fun _ => 0) () trivial (by simp) (.refl _) ?_
 rintro - -
 repeat' (simp -dsimp -implicitDefEqProofs [*])
 exact .same ⟨rfl, rfl⟩
theorem j1z (st : q43) : Rets P F.q14 [.nil, .nil] st (.bool true) := by
 refine H.q14.view q5d rfl rfl ?_
 repeat' (simp -dsimp -implicitDefEqProofs [*])
 refine q44 (fun _ : Unit => [(0, .nil), (1, .nil), (5, .int 0)]) (fun _ => st) (fun _ => True) (fun _ => 0) () trivial (by simp) (.refl _) ?_
 rintro - -
 repeat' (simp -dsimp -implicitDefEqProofs [*])
 exact .same ⟨rfl, rfl⟩
theorem j46 (st : q43) : Rets P F.q2q [.nil, .nil] st (.bool true) := by
 refine H.q2q.view q5d rfl rfl ?_
 repeat' (simp -dsimp -implicitDefEqProofs [*])
 refine q44 (fun _ : Unit => [(0, .nil), (1, .nil), (5, .int 0)]) (fun _ => st) (fun _ => True) (fun _ => 0) () trivial (by simp) (.refl _) ?_
 rintro - -
 repeat' (simp -dsimp -implicitDefEqProofs [*])
 exact .same ⟨rfl, rfl⟩
theorem j7t (st : q43) : Rets P F.q3p [.agg y3e, .agg y3e] st (.bool true) := by
 refine H.q3p.view q5d rfl rfl ?_
 repeat' (first 
  | (with_reducible refine Fresh.intro fun b hb => ?_) <;> (try simp -dsimp -implicitDefEqProofs [*] at hb)
  | (with_reducible refine Rets.xcall (j1z _) ?_)
  | (with_reducible refine Rets.xcall (j46 _) ?_)
  | (simp -dsimp -implicitDefEqProofs [*]))
 rename_i b1 hb1
 revert b; intro b2 hb2
 refine q44 (fun _ : Unit => [(2, .ptr b1 0), (3, .ptr b2 0), (5, .int 0)]) (fun _ => (b2, .arr T.apiRules y3e) :: (b1, .arr T.apiRules y3e) :: st) (fun _ => True) (fun _ => 0) () trivial (by simp) (.refl _) ?_
 rintro - -
 repeat' (simp -dsimp -implicitDefEqProofs [*])
 refine q44 (fun _ : Unit => [(2, .ptr b1 0), (3, .ptr b2 0), (6, .int 0)]) (fun _ => (b2, .arr T.apiRules y3e) :: (b1, .arr T.apiRules y3e) :: st) (fun _ => True) (fun _ => 0) () trivial (by simp) (.refl _) ?_
 rintro - -
 repeat' (first 
  | (with_reducible refine Rets.xcall (z59 _) ?_)
  | (simp -dsimp -implicitDefEqProofs [*]))
 exact .drop (st' := st) q5k ⟨rfl, rfl⟩
theorem z6a (st : q43) : Rets P F.q1k [.agg j45, .agg j45] st (.bool true) := by
 refine H.q1k.view q5d rfl rfl ?_
 repeat' (first 
  | (with_reducible refine Fresh.intro fun b hb => ?_) <;> (try simp -dsimp -implicitDefEqProofs [*] at hb)
  | (with_reducible refine Rets.xcall (j7t _) ?_)
  | (with_reducible refine Rets.xcall (z59 _) ?_)
  | (simp -dsimp -implicitDefEqProofs [*]))
 rename_i b1 hb1
 revert b; intro b2 hb2
 refine q44 (fun _ : Unit => [(2, .ptr b1 0), (3, .ptr b2 0), (5, .int 0)]) (fun _ => (b2, .arr T.apiContest j45) :: (b1, .arr T.apiContest j45) :: st) (fun _ => True) (fun _ => 0) () trivial (by simp) (.refl _) ?_
 rintro - -
 repeat' (simp -dsimp -implicitDefEqProofs [*])
 exact .drop (st' := st) q5k ⟨rfl, rfl⟩
theorem k7h (st : q43) : Rets P F.q1k [.agg zC.l, .agg zC.l] st (.bool true) := z6a st
open Go.Pv Go.Pv.Cd
set_option maxRecDepth 100000
set_option maxHeartbeats 4000000
abbrev rmE (m : Nat) (r : PR Note) : List PV := [.list false (prR r.peers) m, Pk.lst false (r.q.map q6q), .list false [] 0]
abbrev y98 (i k : Int) : List PV := [.int 2, .int i, .int k, .int 0, .int 0, .int 0, .int 0, .int 0, .int 0, .int 0, .int 0, .int 0, .int 0, .int 0, .int 0, .int 0, .int 0, .int 0, .int 0, .int 0, .int 0, .int 0, .int 0, .int 0, .int 0, .int 0, .int 0, .int 0]
theorem y1o {x : PR Note} {n : Nat} {U : List Note} (h : InR x n U) (hn : 1 ≤ n ∧ n ≤ 4) (hU : U.length ≤ 100) (hq : x.q.length ≤ 2500) {i k : Nat} (hi : i < n) (hk : k < n) (hik : i ≠ k) (st : q43) :
  Rets P F.q0e [.agg (rmE n x), .agg (y98 i k)] st (.tuple [.agg (rmE n (x.send (x.all i k))), .int 0]) := by
 have hl := h.len
 have e : x.act q55 q5c ⟨2, i, k, 0, k5o⟩ = .inl (x.send (x.all i k)) := by
  unfold PR.act
  rw [if_neg (by simp), if_pos rfl]
  simp only
  rw [if_pos (by omega), Int.toNat_natCast, Int.toNat_natCast]
 have := q9e h (by omega) (by omega) (by omega) ⟨2, i, k, 0, k5o⟩ st
 unfold z5w z5x at this
 rw [e] at this
 simp only at this
 rw [q59 h, q59 (h.send (h.alls hi hk hik))] at this
 exact this
theorem k6o (l : List Note) : (k0z l).length ≤ l.length := by
 unfold k0z
 rw [k7p]
 refine Nat.le_trans (k49 _ _) ?_
 rw [q9g]
 exact z8v l
theorem k6p (l : List Note) : (k00 l).length ≤ l.length := by
 unfold k00
 rw [k7p]
 refine Nat.le_trans (k49 _ _) ?_
 rw [q9g]
 exact z3e l
theorem j9h (l : List Note) (h : Rise q55 okN l) (hl : l.length ≤ 1000) (st : q43) : Rets P F.q2d [.agg j45, .agg [Note.lst false l]] st (.tuple [.agg (zC.row (Event.lst false (k0z l)) (Decision.lst false (k00 l))), .int 0]) := z1l zC l h hl st
theorem z6b (n : Nat) (hn : n < 256) (t u : Bool) (l : List (Mv Note)) (order : List Nat) (hb8 : ∀ x ∈ order, x < 256) : Rets P F.q1f [u8v n, .list t (mvR l) l.length, .list u (u8R order) order.length] [] (.bool true) := by
 have hml := z3g l
 have hol := z8w order
 obtain ⟨k, hk⟩ : ∃ k, k = n % 4 := ⟨_, rfl⟩
 obtain ⟨m, hm⟩ : ∃ m, m = 1 + k := ⟨_, rfl⟩
 have hm4 : 1 ≤ m ∧ m ≤ 4 := by omega
 have hwn : IntKind.i64.wrap (n : Int) = n := k1f (by omega)
 have hrem : (n : Int).tmod 4 = (k : Int) := by rw [hk]; exact (Int.ofNat_tmod n 4).symm
 have hw1 : IntKind.i64.wrap (1 + (k : Int)) = (m : Int) := by rw [q5a (by omega) (by omega), hm]; omega
 clear hk hm
 have kb := Hid.mk hb8
 clear hb8
 refine H.q1f.view q5d rfl rfl ?_
 by_cases hl : 14 < l.length
 ·have hlI : (14 : Int) < l.length := by omega
  repeat' (first 
   | (with_reducible refine Rets.xcall (q54 _) ?_)
   | (simp -dsimp -implicitDefEqProofs [*]))
  exact .same ⟨rfl, rfl⟩
 have hlI : ¬ (14 : Int) < l.length := by omega
 by_cases ho : 100 < order.length
 ·have hoI : (100 : Int) < order.length := by omega
  repeat' (first 
   | (with_reducible refine Rets.xcall (q54 _) ?_)
   | (simp -dsimp -implicitDefEqProofs [*]))
  exact .same ⟨rfl, rfl⟩
 have hoI : ¬ (100 : Int) < order.length := by omega
 repeat' (first 
  | (with_reducible refine Rets.xcall (q54 _) ?_)
  | (simp -dsimp -implicitDefEqProofs [*]))
 refine q48 (z1m m hm4 t l (by omega) _) ?_
 rintro e s ⟨x, hx, rfl, rfl⟩
 rw [q5l]
 obtain ⟨r, told⟩ := x
 have H0 : ∃ U : List Note, Hid (InR r m U) ∧ Hid (∀ y, y ∈ told ↔ y ∈ U) ∧ U.length ≤ 14 ∧ Hid (∀ y ∈ U, ∃ j, j < m ∧ y ∈ r.know j) := by
  obtain ⟨U, h1, h2, h3, h4⟩ := hx.ex
  exact ⟨U, ⟨h1⟩, ⟨h2⟩, by omega, ⟨h4⟩⟩
 obtain ⟨U, hin, hmem, hUl, hkn⟩ := H0
 have hrise : Hid (Rise q55 okN told) := ⟨hx.rise⟩
 have htl : told.length ≤ 14 := by have := hx.len; simp only at this; omega
 have hrq : r.q.length ≤ 196 := by have := hx.q; simp only at this; omega
 have hrl : r.peers.length = m := hin.out.len
 have hrl2 : (prR r.peers).length = m := by rw [q62]; exact hrl
 rw [q59 hin.out]
 clear hx hwn hrem hw1
 repeat' (first 
  | (with_reducible refine Fresh.intro fun b hb => ?_) <;> (try simp -dsimp -implicitDefEqProofs [*] at hb)
  | (simp -dsimp -implicitDefEqProofs [*]))
 revert b; intro rb
 refine q44 (σ := Nat × PR Note) (fun x => [(2, .list u (u8R order) order.length), (7, .ptr rb 0), (8, Note.lst false told), (10, .int m), (47, .int m), (48, .int (x.1 : Nat))]) (fun x => [(rb, .arr T.apiRoom (rmE m x.2))])
  (fun x => x.1 ≤ m ∧ Hid (PR.Sent q55 q5c r x.2 m U x.1 0)) (fun x => m - x.1) (0, r) ⟨Nat.zero_le _, ⟨PR.Sent.zero hin.out⟩⟩ (by simp) (.refl _) ?_
 rintro ⟨i, x⟩ ⟨hi, hs⟩
 simp only at hi hs
 have hw := q46 (n := i) (by omega)
 by_cases him : i < m
 case pos =>
  repeat' (simp -dsimp -implicitDefEqProofs [*])
  refine q44 (σ := Nat × PR Note) (fun x => [(2, .list u (u8R order) order.length), (7, .ptr rb 0), (8, Note.lst false told), (10, .int m), (47, .int m), (48, .int (i : Nat)), (11, .int (i : Nat)), (51, .int m), (52, .int (x.1 : Nat))]) (fun x => [(rb, .arr T.apiRoom (rmE m x.2))])
   (fun x => x.1 ≤ m ∧ Hid (PR.Sent q55 q5c r x.2 m U i x.1)) (fun x => m - x.1) (0, x) ⟨Nat.zero_le _, hs⟩ (by simp) (.refl _) ?_
  clear hs
  rintro ⟨k, x⟩ ⟨hk, hs⟩
  simp only at hk hs
  have hwk := q46 (n := k) (by omega)
  by_cases hkm : k < m
  case neg =>
   have hke : m = k := by omega
   subst hke
   have nx := Hid.mk hs.out.row
   clear hs
   repeat' (simp -dsimp -implicitDefEqProofs [*])
   exact Next.intro (i + 1, x) ⟨by simp only; omega, nx⟩ (by simp only; omega) (by simp) (.refl _)
  by_cases hik : i = k
  ·subst hik
   have nx := Hid.mk hs.out.skip
   clear hs
   repeat' (simp -dsimp -implicitDefEqProofs [*])
   exact Next.intro (i + 1, x) ⟨by simp only; omega, nx⟩ (by simp only; omega) (by simp) (.refl _)
  have hikI : ¬ (i : Int) = k := by omega
  have hxq : x.q.length ≤ 700 := by
   have h1 := hs.out.len
   have h2 : i * m + k ≤ 20 := by
    have : i * m ≤ 3 * 4 := Nat.mul_le_mul (by omega) (by omega)
    omega
   have h3 : (i * m + k) * U.length ≤ 20 * 14 := Nat.mul_le_mul h2 hUl
   omega
  have hdo := fun st => y1o hs.out.inn hm4 (by omega) (by omega) him hkm hik st
  have hxp : x.peers.length = m := hs.out.inn.len
  have hil : i < x.peers.length := by omega
  have p1 := k0f hil
  have p2 : ∀ h : i < (prR x.peers).length, (prR x.peers)[i]'h = Note.lst false x.peers[i] := fun h => by
   rw [List.getElem?_eq_getElem h] at p1
   exact Option.some.inj p1
  have nx := Hid.mk (hs.out.step cmpN_ord him hkm hik)
  have hpl : x.peers[i].length ≤ 14 := by
   have := hs.out.inn.know_len cmpN_ord i
   unfold PR.know at this
   rw [List.getD_eq_getElem?_getD, List.getElem?_eq_getElem hil, Option.getD_some] at this
   omega
  have hql : (x.send (x.all i k)).q.length = x.q.length + x.peers[i].length := by
   show (x.q ++ (x.know i).map fun n => (i, k, n)).length = _
   rw [List.length_append, List.length_map]
   unfold PR.know
   rw [List.getD_eq_getElem?_getD, List.getElem?_eq_getElem hil]
   rfl
  have hpy : (prR (x.send (x.all i k)).peers).length = m := by rw [q62]; exact nx.out.inn.len
  have hwq : IntKind.i64.wrap ((x.q.length : Int) + x.peers[i].length) = ((x.send (x.all i k)).q.length : Int) := by rw [q5a (by omega) (by omega), hql]; omega
  have hqI : ¬ (2000 : Int) < (x.send (x.all i k)).q.length := by omega
  clear hs hql
  generalize x.send (x.all i k) = y at *
  repeat' (first 
   | (with_reducible refine Fresh.intro fun b hb => ?_) <;> (try simp -dsimp -implicitDefEqProofs [*] at hb)
   | (with_reducible refine Rets.xcall (hdo _) ?_)
   | (simp -dsimp -implicitDefEqProofs [*]))
  exact Next.intro (k + 1, y) ⟨by simp only; omega, nx⟩ (by simp only; omega) (by simp) q5k
 have hie : m = i := by omega
 subst hie
 have hxq : x.q.length ≤ 700 := by
  have h1 := hs.out.len
  have h2 : m * m + 0 ≤ 16 := by
   have : m * m ≤ 4 * 4 := Nat.mul_le_mul (by omega) (by omega)
   omega
  have h3 : (m * m + 0) * U.length ≤ 16 * 14 := Nat.mul_le_mul h2 hUl
  omega
 have d1 := fun st => k20 hs.out.inn hm4 (by omega) (by omega) u order (by omega) kb.out st
 rw [q59 hs.out.inn] at d1
 repeat' (simp -dsimp -implicitDefEqProofs [*])
 refine q48 (d1 _) ?_
 rintro e s ⟨z, hz, hzq, rfl, rfl⟩
 rw [q5l, q59 hz.inn, hzq]
 have hzl : z.peers.length = m := hz.inn.len
 have hk2 : ∀ j (h : j < z.peers.length), z.peers[j] = told := fun j h => by
  have h1 := j1a cmpN_ord hz.inn hzq (i := j) hrise.out fun w => (hz.will j w).trans ((hs.out.will hkn.out (by omega) w).trans (hmem.out w).symm)
  unfold PR.know at h1
  rw [List.getD_eq_getElem?_getD, List.getElem?_eq_getElem h, Option.getD_some] at h1
  exact h1
 have H0 : ∃ R : List PV, prR z.peers = R ∧ R.length = m ∧ Hid (∀ j, j < m → R[j]? = some (Note.lst false told)) := ⟨_, rfl, by rw [q62]; exact hzl, ⟨fun j hj => by rw [k0f (by omega), hk2 j (by omega)]⟩⟩
 obtain ⟨R, hR, hRl, hRg⟩ := H0
 rw [hR]
 clear hR hk2 hzl hz hzq hs d1 hxq hkn hin hrl hrl2
 have w0 := fun st => j9h told hrise.out (by omega) st
 have g0 := hRg.out 0 (by omega)
 have g1 : ∀ h : 0 < R.length, R[0]'h = Note.lst false told := fun h => by
  rw [List.getElem?_eq_getElem h] at g0
  exact Option.some.inj g0
 have g2 := k9b g0
 have sN := fun st => q7s false false told (by omega) st
 have sW := fun st => k99 zC (k0z told) (k00 told) (by have := k6o told; omega) (by have := k6p told; omega) k7h st
 have hm0 : (0 : Int) < m := by omega
 repeat' (first 
  | (with_reducible refine Fresh.intro fun b hb => ?_) <;> (try simp -dsimp -implicitDefEqProofs [*] at hb)
  | (with_reducible refine Rets.xcall (w0 _) ?_)
  | ((with_reducible refine q5i ?_ fun hk => ?_); omega)
  | (simp -dsimp -implicitDefEqProofs [*]))
 revert b; intro wb hwb
 refine q44 (σ := Nat) (fun j => [(8, Note.lst false told), (16, .ptr wb 0), (124, .list false R m), (125, .int m), (126, .int (j : Nat))]) (fun _ => [(wb, .arr T.apiWorld (zC.row (Event.lst false (k0z told)) (Decision.lst false (k00 told))))]) (fun j => j ≤ m) (fun j => m - j) 0 (Nat.zero_le _) (by simp) (q6s (fun _ _ h => by cases h)) ?_
 clear g0 g1 g2
 intro j hj
 have hwj := q46 (n := j) (by omega)
 by_cases hjm : j < m
 case pos =>
  have g0 := hRg.out j hjm
  have g1 : ∀ h : j < R.length, R[j]'h = Note.lst false told := fun h => by
   rw [List.getElem?_eq_getElem h] at g0
   exact Option.some.inj g0
  have g2 := k9b g0
  repeat' (first 
   | (with_reducible refine Fresh.intro fun b hb => ?_) <;> (try simp -dsimp -implicitDefEqProofs [*] at hb)
   | (with_reducible refine Rets.xcall (w0 _) ?_)
   | (with_reducible refine Rets.xcall (sN _) ?_)
   | (with_reducible refine Rets.xcall (sW _) ?_)
   | (simp -dsimp -implicitDefEqProofs [*]))
  exact Next.intro (j + 1) (by omega) (by omega) (by simp) q5k
 have hje : m = j := by omega
 subst hje
 repeat' (simp -dsimp -implicitDefEqProofs [*])
 exact .drop (st' := []) (fun _ _ h => by cases h) ⟨rfl, rfl⟩
theorem z6c (n : Int) (hn : 0 ≤ n ∧ n < 256) (l : List (Mv Note)) (o : List (BitVec 8)) : Rets P F.q1f [.val (.int .u8 n), .list false (mvR l) l.length, q5v false o] [] (.bool true) := by
 have := z6b n.toNat (by omega) false false l (o.map BitVec.toNat) fun x hx => by
  obtain ⟨b, -, rfl⟩ := List.mem_map.1 hx
  exact b.isLt
 have e : ((n.toNat : Nat) : Int) = n := by omega
 have e2 : u8R (o.map BitVec.toNat) = q5b o := by
  unfold u8R q5b
  rw [List.map_map]
  rfl
 unfold u8v at this
 rw [e, e2, List.length_map] at this
 exact this
end Go.Proofs.YtmlmoaimjifpgaaGreat
