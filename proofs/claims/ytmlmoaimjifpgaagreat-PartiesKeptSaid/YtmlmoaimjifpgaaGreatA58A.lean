/- Moves one after another, deliveries in any order: plain. -/
import Derived.Test.YtmlmoaimjifpgaaGreatP58C
import Derived.Test.YtmlmoaimjifpgaaGreatR58B
import Derived.Test.YtmlmoaimjifpgaaGreatY58D
import Derived.Test.YtmlmoaimjifpgaaGreatX58B
namespace Go.Proofs.YtmlmoaimjifpgaaGreat
open Go.Pv Go.Pv.Cd
set_option maxRecDepth 100000
set_option maxHeartbeats 4000000
structure ActI (s : PR Note × List Note) (n k : Nat) : Prop where
 ex : ∃ T : List Note, InR s.1 n T ∧ (∀ y, y ∈ s.2 ↔ y ∈ T) ∧ T.length ≤ k ∧ ∀ y ∈ T, ∃ j, j < n ∧ y ∈ s.1.know j
 rise : Rise q55 okN s.2
 q : s.1.q.length ≤ k * 14
theorem ActI.zero (n : Nat) : ActI (j1v n, []) n 0 :=
 ⟨⟨[], newR_in, fun _ => Iff.rfl, Nat.le_refl _, fun _ hy => absurd hy List.not_mem_nil⟩, .nil, Nat.le_refl _⟩
theorem ActI.len {s : PR Note × List Note} {n k : Nat} (h : ActI s n k) : s.2.length ≤ k := by
 obtain ⟨T, -, h2, h3, -⟩ := h.ex
 exact Nat.le_trans (q74 (Rise.nodup cmpN_ord h.rise) fun x hx => (h2 x).1 hx) h3
theorem ActI.more {s : PR Note × List Note} {n k : Nat} (h : ActI s n k) : ActI s n (k + 1) := by
 obtain ⟨T, h1, h2, h3, h4⟩ := h.ex
 exact ⟨⟨T, h1, h2, by omega, h4⟩, h.rise, by have := h.q; omega⟩
theorem ActI.step {s : PR Note × List Note} {x : PR Note} {n k : Nat} (h : ActI s n k) (hn : n ≤ 14) (hk : k < 14) {m : Mv Note} (e : s.1.act q55 q5c m = .inl x) :
  ActI (x, if m.kind = 1 then k59 q55 s.2 m.note else s.2) n (k + 1) := by
 obtain ⟨T, h1, h2, h3, h4⟩ := h.ex
 obtain ⟨a1, a2⟩ := h1.act cmpN_ord e
 have a3 := h1.act_told e h4
 have a4 := h1.act_len cmpN_ord e hn (by omega) (k := 14) (by omega)
 refine ⟨⟨_, a1, fun y => ?_, ?_, a3⟩, ?_, ?_⟩
 ·by_cases hk : m.kind = 1
  ·rw [if_pos hk, if_pos hk, q95, List.mem_cons, h2]
   exact Or.comm
  ·rw [if_neg hk, if_neg hk]
   exact h2 y
 ·split
  ·rw [List.length_cons]; omega
  ·omega
 ·by_cases hk : m.kind = 1
  ·rw [if_pos hk]
   exact z5a cmpN_ord h.rise (a2 hk)
  ·rw [if_neg hk]
   exact h.rise
 ·have := h.q
  show x.q.length ≤ _
  omega
structure DrI (r x : PR Note) (n : Nat) (T : List Note) : Prop where
 inn : InR x n T
 will : ∀ i y, x.Will i y ↔ r.Will i y
theorem DrI.zero {r : PR Note} {n : Nat} {T : List Note} (h : InR r n T) : DrI r r n T := ⟨h, fun _ _ => Iff.rfl⟩
theorem DrI.rep {r x : PR Note} {n : Nat} {T : List Note} (h : DrI r x n T) (k : Nat) : DrI r (x.rep k) n T := ⟨h.inn.rep k, fun i y => (PR.rep_will x k i y).trans (h.will i y)⟩
theorem DrI.deliver {r x : PR Note} {n : Nat} {T : List Note} (h : DrI r x n T) {k : Nat} (hk : k < x.q.length) : DrI r (x.deliver q55 k) n T := ⟨h.inn.deliver cmpN_ord k, fun i y => (PR.deliver_will h.inn hk i y).trans (h.will i y)⟩
theorem k9j {x : PR Note} {n : Nat} {T : List Note} (h : InR x n T) {k : Nat} (hk : k < x.q.length) : (x.deliver q55 k).q = x.q.eraseIdx k := by
 unfold PR.deliver
 rw [List.getElem?_eq_getElem hk]
 have : y8d x.ap x.q[k].1 x.q[k].2.1 = false := by rw [h.ap]; rfl
 simp only
 rw [this]
 rfl
theorem y95 {x : PR Note} {k : Nat} (hk : k < x.q.length) : (x.rep k).q = x.q ++ [x.q[k]] := by
 unfold PR.rep
 rw [List.getElem?_eq_getElem hk]
open Go.Pv Go.Pv.Cd
set_option maxRecDepth 100000
set_option maxHeartbeats 8000000
def mvR (l : List (Mv Note)) : List PV := l.flatMap mvE
theorem z3g (l : List (Mv Note)) : (mvR l).length = l.length * 28 := q53 mvE 28 j4j l
theorem j4t (l : List (Mv Note)) (i : Nat) (h : i < l.length) : sub (mvR l) (i * 28) 28 = some (mvE l[i]) := q78 mvE 28 j4j l i h
theorem j4u {r : PR Note} {m : Mv Note} {e : Int} (h : r.act q55 q5c m = .inr e) : e = 1 ∨ e = 580 := by
 unfold PR.act at h
 repeat' (split at h)
 all_goals first | (cases h; done) | (cases h; simp)
theorem q59 {r : PR Note} {n : Nat} {U : List Note} (h : InR r n U) : q6l r = [.list false (prR r.peers) n, Pk.lst false (r.q.map q6q), .list false [] 0] := by
 unfold q6l
 rw [h.len]
theorem z1m (n : Nat) (hn : 1 ≤ n ∧ n ≤ 4) (t : Bool) (l : List (Mv Note)) (hl : l.length ≤ 14) (st : q43) :
  PCalls P F.q2s [.int n, .list t (mvR l) l.length] st fun e s => ∃ x : PR Note × List Note, ActI x n l.length ∧ e = .ret (.tuple [.agg (q6l x.1), Note.lst false x.2, .bool true]) ∧ s = st := by
 have hml := z3g l
 have hnew := fun st => j4n n (by omega) st
 have e0 : q6l (j1v n) = [.list false (prR (j1v n).peers) n, Pk.lst false ((j1v n).q.map q6q), .list false [] 0] := by
  unfold q6l
  rw [newR_in.len]
 refine H.q2s.view q5d rfl rfl ?_
 rw [e0] at hnew
 repeat' (first 
  | (with_reducible refine Fresh.intro fun b hb => ?_) <;> (try simp -dsimp -implicitDefEqProofs [*] at hb)
  | (with_reducible refine Rets.xcall (hnew _) ?_)
  | (simp -dsimp -implicitDefEqProofs [*]))
 revert b; intro rb hrb
 refine k53 (σ := Nat × PR Note × List Note) (fun x => [(0, .int n), (4, .ptr rb 0), (5, Note.lst false x.2.2), (7, .int 0), (27, .list t (mvR l) l.length), (28, .int l.length), (29, .int (x.1 : Nat))])
  (fun x => (rb, .arr T.apiRoom [.list false (prR x.2.1.peers) n, Pk.lst false (x.2.1.q.map q6q), .list false [] 0]) :: st) (fun x => x.1 ≤ l.length ∧ Hid (ActI x.2 n x.1)) (fun x => l.length - x.1) (0, j1v n, []) ⟨Nat.zero_le _, ⟨ActI.zero n⟩⟩ ?_ ?_
 ·refine View.ple (StLe.refl _) ?_
  simp
  refine ⟨.refl _, .refl _, .nil1, .refl _, .refl _, .refl _, .refl _⟩
 rintro ⟨i, r, told⟩ ⟨hi, hI⟩
 simp only at hi hI
 have hw := q46 (n := i) (by omega)
 by_cases hil : i < l.length
 case neg =>
  obtain rfl : i = l.length := by omega
  obtain ⟨U, h1, -⟩ := hI.out.ex
  have e := q59 h1
  clear h1
  repeat' (simp -dsimp -implicitDefEqProofs [*])
  exact .drop (st' := st) q5k ⟨r, told, hI.out, by rw [e], rfl⟩
 have hsub := j4t l i hil
 generalize l[i] = m at *
 have hA := hI.out
 obtain ⟨U, h1, h2, h3, h4⟩ := hA.ex
 replace h1 : InR r n U := h1
 have hq : r.q.length ≤ i * 14 := hA.q
 have hlen : r.peers.length = n := h1.len
 have hdo := fun st => q9e h1 (by omega) (by omega) (by omega) m st
 have hr0 : q6l r = [.list false (prR r.peers) n, Pk.lst false (r.q.map q6q), .list false [] 0] := by unfold q6l; rw [h1.len]
 rw [hr0] at hdo
 cases hz : r.act q55 q5c m with
 | inr e =>
  have he := j4u hz
  have e1 : z5w r m = k0x := by unfold z5w; rw [hz]
  have e2 : z5x r m = e := by unfold z5x; rw [hz]
  rw [e1, e2] at hdo
  have nx : Hid (ActI (r, told) n (i + 1)) := ⟨hA.more⟩
  clear hA hI h1 h2 h3 h4 e1 e2 hr0 hz hq hlen
  have hne : ¬ e = 0 := by omega
  unfold k0x at hdo
  repeat' (first 
   | (with_reducible refine Fresh.intro fun b hb => ?_) <;> (try simp -dsimp -implicitDefEqProofs [*] at hb)
   | (with_reducible refine Rets.xcall (hdo _) ?_)
   | (simp -dsimp -implicitDefEqProofs [*]))
  exact Next.intro (i + 1, r, told) ⟨by simp only; omega, nx⟩ (by simp only; omega) (by simp) q5k
 | inl x =>
  have e1 : z5w r m = q6l x := by unfold z5w; rw [hz]
  have e2 : z5x r m = 0 := by unfold z5x; rw [hz]
  have nx0 : ActI (x, if m.kind = 1 then k59 q55 told m.note else told) n (i + 1) := hA.step (by omega) (by omega) hz
  obtain ⟨U', g1, -⟩ := nx0.ex
  replace g1 : InR x n U' := g1
  have e3 : q6l x = [.list false (prR x.peers) n, Pk.lst false (x.q.map q6q), .list false [] 0] := by unfold q6l; rw [g1.len]
  rw [e1, e2, e3] at hdo
  have hxq : x.q.length ≤ (i + 1) * 14 := nx0.q
  have hlearn : m.kind = 1 → ∀ st, Rets P F.q2t [Note.lst false told, m.note.pv] st (.tuple [Note.lst false (k59 q55 told m.note), .int 0]) := fun hk st => z8u told hA.rise (by have := hA.len; simp only at this; omega) m.note ((h1.act cmpN_ord hz).2 hk) st
  have hpl : (prR x.peers).length = n := by rw [q62]; exact g1.len
  by_cases hk : m.kind = 1
  ·rw [if_pos hk] at nx0
   have nx := Hid.mk nx0
   have hl2 := hlearn hk
   clear hA hI h1 h2 h3 h4 e1 e2 e3 hr0 hz hq hlen nx0 hlearn g1
   repeat' (first 
    | (with_reducible refine Fresh.intro fun b hb => ?_) <;> (try simp -dsimp -implicitDefEqProofs [*] at hb)
    | (with_reducible refine Rets.xcall (hdo _) ?_)
    | (with_reducible refine Rets.xcall (hl2 _) ?_)
    | (with_reducible refine And.intro (fun h => ?_) (fun h => ?_)) <;> (try (exfalso; omega))
    | (simp -dsimp -implicitDefEqProofs [*]))
   exact Next.intro (i + 1, x, k59 q55 told m.note) ⟨by simp only; omega, nx⟩ (by simp only; omega) (by simp) q5k
  ·rw [if_neg hk] at nx0
   have nx := Hid.mk nx0
   clear hA hI h1 h2 h3 h4 e1 e2 e3 hr0 hz hq hlen nx0 hlearn g1
   repeat' (first 
    | (with_reducible refine Fresh.intro fun b hb => ?_) <;> (try simp -dsimp -implicitDefEqProofs [*] at hb)
    | (with_reducible refine Rets.xcall (hdo _) ?_)
    | (with_reducible refine And.intro (fun h => ?_) (fun h => ?_)) <;> (try (exfalso; omega))
    | (simp -dsimp -implicitDefEqProofs [*]))
   exact Next.intro (i + 1, x, told) ⟨by simp only; omega, nx⟩ (by simp only; omega) (by simp) q5k
open Go.Pv Go.Pv.Cd
set_option maxRecDepth 100000
set_option maxHeartbeats 8000000
def k5o : Note := ⟨0, zeroE, zeroD⟩
abbrev u8v (x : Nat) : PV := .val (.int .u8 (x : Nat))
def u8R (l : List Nat) : List PV := l.map u8v
@[simp] theorem z8w (l : List Nat) : (u8R l).length = l.length := by simp [u8R]
theorem y1e (l : List Nat) (i : Nat) (h : i < l.length) : (u8R l)[i]? = some (u8v l[i]) := by simp [u8R, h]
theorem k9k {α : Type} {l : List α} {k : Nat} (h : k < l.length) : (l.eraseIdx k).length = l.length - 1 := by rw [List.length_eraseIdx, if_pos h]
def DrQ (r : PR Note) (n : Nat) (U : List Note) (st : q43) (e : PEnd) (s : q43) : Prop := ∃ x, DrI r x n U ∧ x.q = [] ∧ e = .ret (.tuple [.agg (q6l x), .bool true]) ∧ s = st
abbrev y1f (kind k : Int) : List PV := [.int kind, .int 0, .int 0, .int k, .int 0, .int 0, .int 0, .int 0, .int 0, .int 0, .int 0, .int 0, .int 0, .int 0, .int 0, .int 0, .int 0, .int 0, .int 0, .int 0, .int 0, .int 0, .int 0, .int 0, .int 0, .int 0, .int 0, .int 0]
theorem k6n {x : PR Note} {n : Nat} {U : List Note} (h : InR x n U) (hn : 1 ≤ n ∧ n ≤ 4) (hU : U.length ≤ 100) (hq : x.q.length ≤ 3000) {k : Nat} (hk : k < x.q.length) (st : q43) :
  Rets P F.q0e [.agg [.list false (prR x.peers) n, Pk.lst false (x.q.map q6q), .list false [] 0], .agg (y1f 3 k)] st (.tuple [.agg [.list false (prR (x.deliver q55 k).peers) n, Pk.lst false ((x.deliver q55 k).q.map q6q), .list false [] 0], .int 0]) := by
 have e : x.act q55 q5c ⟨3, 0, 0, k, k5o⟩ = .inl (x.deliver q55 k) := by
  unfold PR.act
  rw [if_neg (by simp), if_neg (by simp), if_pos rfl]
  simp only
  rw [if_pos (by omega), Int.toNat_natCast]
 have := q9e h (by omega) (by omega) hq ⟨3, 0, 0, k, k5o⟩ st
 unfold z5w z5x at this
 rw [e] at this
 simp only at this
 rw [q59 h, q59 (h.deliver cmpN_ord k)] at this
 exact this
theorem j4v {x : PR Note} {n : Nat} {U : List Note} (h : InR x n U) (hn : 1 ≤ n ∧ n ≤ 4) (hU : U.length ≤ 100) (hq : x.q.length ≤ 3000) {k : Nat} (hk : k < x.q.length) (st : q43) :
  Rets P F.q0e [.agg [.list false (prR x.peers) n, Pk.lst false (x.q.map q6q), .list false [] 0], .agg (y1f 5 k)] st (.tuple [.agg [.list false (prR (x.rep k).peers) n, Pk.lst false ((x.rep k).q.map q6q), .list false [] 0], .int 0]) := by
 have e : x.act q55 q5c ⟨5, 0, 0, k, k5o⟩ = .inl (x.rep k) := by
  unfold PR.act
  rw [if_neg (by simp), if_neg (by simp), if_neg (by simp), if_neg (by simp), if_pos rfl]
  simp only
  rw [if_pos (by omega), Int.toNat_natCast]
 have := q9e h (by omega) (by omega) hq ⟨5, 0, 0, k, k5o⟩ st
 unfold z5w z5x at this
 rw [e] at this
 simp only at this
 rw [q59 h, q59 (h.rep k)] at this
 exact this
theorem k20 {r : PR Note} {n : Nat} {U : List Note} (h : InR r n U) (hn : 1 ≤ n ∧ n ≤ 4) (hU : U.length ≤ 100) (hq : r.q.length ≤ 2500) (t : Bool) (order : List Nat) (ho : order.length ≤ 100) (hb8 : ∀ x ∈ order, x < 256) (st : q43) :
  PCalls P F.q10 [.agg (q6l r), .list t (u8R order) order.length] st (DrQ r n U st) := by
 have hol : (u8R order).length = order.length := z8w order
 rw [q59 h]
 refine H.q10.view q5d rfl rfl ?_
 have hpl : (prR r.peers).length = n := by rw [q62]; exact h.len
 repeat' (first 
  | (with_reducible refine Fresh.intro fun b hb => ?_) <;> (try simp -dsimp -implicitDefEqProofs [*] at hb)
  | (simp -dsimp -implicitDefEqProofs [*]))
 rename_i b1 hb1
 revert b; intro b2 hb2
 refine q44 (σ := Nat × PR Note) (fun x => [(1, .list t (u8R order) order.length), (2, .ptr b1 0), (4, .ptr b2 0), (6, .int n), (7, .int (x.1 : Nat))])
  (fun x => (b2, .arr T.apiRoom [.nil, .nil, .nil]) :: (b1, .arr T.apiRoom [.list false (prR x.2.peers) n, Pk.lst false (x.2.q.map q6q), .list false [] 0]) :: st)
  (fun x => Hid (DrI r x.2 n U) ∧ x.1 + (100 - x.1) + x.2.q.length ≤ 2600) (fun x => (100 - x.1) + x.2.q.length) (0, r) ⟨⟨DrI.zero h⟩, by simp only; omega⟩ (by simp) (.refl _) ?_
 clear h hq hpl
 rintro ⟨i, x⟩ ⟨hD, hi⟩
 simp only at hD hi
 have hw := q46 (n := i) (by omega)
 have hlen : x.peers.length = n := hD.out.inn.len
 have hpx : (prR x.peers).length = n := by rw [q62]; exact hlen
 by_cases hz : x.q.length = 0
 ·have hz2 : x.q = [] := List.eq_nil_of_length_eq_zero hz
  have e := Hid.mk (q59 hD.out.inn)
  repeat' (simp -dsimp -implicitDefEqProofs [*])
  exact .drop (st' := st) q5k ⟨x, hD.out, hz2, by rw [e.out, hz2]; rfl, rfl⟩
 have hpos : 0 < x.q.length := by omega
 have hposI : (0 : Int) < x.q.length := by omega
 have hwq : IntKind.i64.wrap ((x.q.length : Int) - 1) = (x.q.length : Int) - 1 := q5a (by omega) (by omega)
 by_cases hio : i < order.length
 ·have ho1 := y1e order i hio
  have ho2 : ∀ h : i < (u8R order).length, (u8R order)[i]'h = u8v order[i] := fun h => by
   rw [List.getElem?_eq_getElem h] at ho1
   exact Option.some.inj ho1
  have ho256 := hb8 _ (List.getElem_mem hio)
  generalize order[i] = a at *
  have hwa : IntKind.i64.wrap (a : Int) = a := k1f (by omega)
  by_cases ha : a < 200
  ·have haI : ¬ (200 : Int) ≤ a := by omega
   obtain ⟨k, hk⟩ : ∃ k, k = a % x.q.length := ⟨_, rfl⟩
   have hkl : k < x.q.length := by rw [hk]; exact Nat.mod_lt _ hpos
   have hrem : (a : Int).tmod x.q.length = (k : Int) := by rw [hk, Int.ofNat_tmod]
   have hdo := fun st => k6n hD.out.inn hn hU (by omega) hkl st
   have hql : (x.deliver q55 k).q.length = x.q.length - 1 := by rw [k9j hD.out.inn hkl, k9k hkl]
   have nx := Hid.mk (hD.out.deliver hkl)
   have hpd : (prR (x.deliver q55 k).peers).length = n := by rw [q62]; exact nx.out.inn.len
   clear hD hk
   generalize x.deliver q55 k = y at *
   have hqI : (y.q.length : Int) = x.q.length - 1 := by omega
   repeat' (first 
    | (with_reducible refine Fresh.intro fun b hb => ?_) <;> (try simp -dsimp -implicitDefEqProofs [*] at hb)
    | (with_reducible refine q5w (fun _ => hdo _) ?_)
    | (with_reducible refine DrawLate.intro [] ?_)
    | (with_reducible refine q51 ?_ ?_)
    | (with_reducible exact Cls.self _ _)
    | (with_reducible refine q57 ?_ ?_)
    | (with_reducible refine And.intro (fun h => ?_) (fun h => ?_)) <;> (try (exfalso; omega))
    | (simp -dsimp -implicitDefEqProofs [*]))
   exact Next.intro (i + 1, y) ⟨nx, by simp only; omega⟩ (by simp only; omega) (by simp) q5k
  ·have haI : (200 : Int) ≤ a := by omega
   obtain ⟨k, hk⟩ : ∃ k, k = a % x.q.length := ⟨_, rfl⟩
   have hkl : k < x.q.length := by rw [hk]; exact Nat.mod_lt _ hpos
   have hrem : (a : Int).tmod x.q.length = (k : Int) := by rw [hk, Int.ofNat_tmod]
   have hdo := fun st => j4v hD.out.inn hn hU (by omega) hkl st
   have hql : (x.rep k).q.length = x.q.length + 1 := by rw [y95 hkl, List.length_append]; rfl
   have nx := Hid.mk (hD.out.rep k)
   have hpd : (prR (x.rep k).peers).length = n := by rw [q62]; exact nx.out.inn.len
   have hdl : (x.rep k).peers.length = n := nx.out.inn.len
   clear hD hk
   generalize x.rep k = y at *
   have hwq2 : IntKind.i64.wrap ((x.q.length : Int) + 1) = (y.q.length : Int) := by rw [q46 (by omega)]; omega
   have hwqy : IntKind.i64.wrap ((y.q.length : Int) - 1) = (y.q.length : Int) - 1 := q5a (by omega) (by omega)
   obtain ⟨j, hj⟩ : ∃ j, j = a % y.q.length := ⟨_, rfl⟩
   have hjl : j < y.q.length := by rw [hj]; exact Nat.mod_lt _ (by omega)
   have hrem2 : (a : Int).tmod y.q.length = (j : Int) := by rw [hj, Int.ofNat_tmod]
   have hdo2 := fun st => k6n nx.out.inn hn hU (by omega) hjl st
   have hql2 : (y.deliver q55 j).q.length = y.q.length - 1 := by rw [k9j nx.out.inn hjl, k9k hjl]
   have nx2 := Hid.mk (nx.out.deliver hjl)
   have hpd2 : (prR (y.deliver q55 j).peers).length = n := by rw [q62]; exact nx2.out.inn.len
   clear nx hj
   generalize y.deliver q55 j = z at *
   have hqI2 : (z.q.length : Int) = y.q.length - 1 := by omega
   have kq := Hid.mk hql
   have hzy : ¬ y.q.length = 0 := by omega
   have hposy : (0 : Int) < y.q.length := by omega
   clear hql hql2 hdl hlen
   repeat' (first 
    | (with_reducible refine Fresh.intro fun b hb => ?_) <;> (try simp -dsimp -implicitDefEqProofs [*] at hb)
    | (with_reducible refine q5w (fun _ => hdo _) ?_)
    | (with_reducible refine q5w (fun _ => hdo2 _) ?_)
    | (with_reducible refine DrawLate.intro [] ?_)
    | (with_reducible refine q51 ?_ ?_)
    | (with_reducible exact Cls.self _ _)
    | (with_reducible refine q57 ?_ ?_)
    | (simp -dsimp -implicitDefEqProofs [*]))
   have kqq := kq.out
   exact Next.intro (i + 1, z) ⟨nx2, by simp only; omega⟩ (by simp only; omega) (by simp) q5k
 ·have hkl : 0 < x.q.length := by omega
  have hdo : ∀ st, Rets P F.q0e [.agg [.list false (prR x.peers) n, Pk.lst false (x.q.map q6q), .list false [] 0], .agg (y1f 3 0)] st (.tuple [.agg [.list false (prR (x.deliver q55 0).peers) n, Pk.lst false ((x.deliver q55 0).q.map q6q), .list false [] 0], .int 0]) :=
   fun st => k6n hD.out.inn hn hU (by omega) hkl st
  have hql : (x.deliver q55 0).q.length = x.q.length - 1 := by rw [k9j hD.out.inn hkl, k9k hkl]
  have nx := Hid.mk (hD.out.deliver hkl)
  have hpd : (prR (x.deliver q55 0).peers).length = n := by rw [q62]; exact nx.out.inn.len
  clear hD
  generalize x.deliver q55 0 = y at *
  have hqI : (y.q.length : Int) = x.q.length - 1 := by omega
  repeat' (first 
   | (with_reducible refine Fresh.intro fun b hb => ?_) <;> (try simp -dsimp -implicitDefEqProofs [*] at hb)
   | (with_reducible refine q5w (fun _ => hdo _) ?_)
   | (with_reducible refine DrawLate.intro [] ?_)
   | (with_reducible refine q51 ?_ ?_)
   | (with_reducible exact Cls.self _ _)
   | (with_reducible refine q57 ?_ ?_)
   | (with_reducible refine And.intro (fun h => ?_) (fun h => ?_)) <;> (try (exfalso; omega))
   | (simp -dsimp -implicitDefEqProofs [*]))
  exact Next.intro (i + 1, y) ⟨nx, by simp only; omega⟩ (by simp only; omega) (by simp) q5k
open Go.Pv Go.Pv.Cd
set_option maxRecDepth 100000
set_option maxHeartbeats 4000000
def nE : Note := ⟨1, ⟨3, 1, 0, 3, 0, 0, 5, 7, 8⟩, zeroD⟩
abbrev j4w : List PV := [.int 1, .int 3, .int 1, .int 0, .int 3, .int 0, .int 0, .int 5, .int 7, .int 8, .int 0, .int 0, .int 0, .int 0, .int 0, .int 0, .int 0, .int 0, .int 0, .int 0, .int 0, .int 0, .int 0, .int 0]
abbrev y1g : List PV := [.int 0, .int 0, .int 0, .int 0, .int 0, .int 0, .int 0, .int 0, .int 0, .int 0, .int 0, .int 0, .int 0, .int 0, .int 0, .int 0, .int 0, .int 0, .int 0, .int 0, .int 0, .int 0, .int 0, .int 0]
theorem j4x : q5c nE = true := by decide
theorem z8x : Rise q55 okN [nE] := ⟨fun x hx => by rw [List.mem_singleton.1 hx]; exact j4x, List.pairwise_singleton ..⟩
theorem k5p (st : q43) : Rets P F.q19 [.int 3, .int 5] st (.agg j4w) := by
 refine H.q19.view q5d rfl rfl ?_
 repeat' (first 
  | (with_reducible refine Fresh.intro fun b hb => ?_) <;> (try simp -dsimp -implicitDefEqProofs [*] at hb)
  | (simp -dsimp -implicitDefEqProofs [*]))
 exact .drop (st' := st) q5k ⟨rfl, rfl⟩
abbrev rE : List PV := [.list false [] 0, .list false [] 0, .list false [] 0]
abbrev byM : PV := q5v false (msg nE)
abbrev two : List PV := [.list false [.list false [] 0, .list false [] 0] 2, .list false [] 0, .list false [] 0]
abbrev rX : List PV := [.list false [.list false [] 0, .list false j4w 1] 2, .list false [.int 1, .int 0, byM] 1, .list false [] 0]
abbrev rY : List PV := [.list false [.list false j4w 1, .list false j4w 1] 2, .list false [] 0, .list false [] 0]
def rx : PR Note := ⟨[[], [nE]], [(1, 0, nE)], []⟩
def ry : PR Note := ⟨[[nE], [nE]], [], []⟩
theorem act1 : (j1v 2).act q55 q5c ⟨1, 1, 0, 0, nE⟩ = .inl rx := by
 unfold PR.act
 rw [if_pos rfl]
 simp only
 rw [if_pos (by decide), if_pos j4x]
 rfl
theorem act2 : (j1v 2).act q55 q5c ⟨1, 0, 0, 0, k5o⟩ = .inr 580 := by
 unfold PR.act
 rw [if_pos rfl]
 simp only
 rw [if_pos (by decide), if_neg (by decide)]
theorem act3 : (j1v 2).act q55 q5c ⟨3, 0, 0, 0, k5o⟩ = .inr 1 := by
 unfold PR.act
 rw [if_neg (by decide), if_neg (by decide), if_pos rfl]
 simp only
 rw [if_neg (by decide)]
theorem act4 : rx.act q55 q5c ⟨3, 0, 0, 0, k5o⟩ = .inl ry := by
 unfold PR.act
 rw [if_neg (by decide), if_neg (by decide), if_pos rfl]
 simp only
 rw [if_pos (by decide)]
 rfl
theorem rx_in : InR rx 2 [nE] := by
 have := newR_in.act cmpN_ord act1
 exact this.1
theorem y96 : InR ry 2 [nE] := by
 have := rx_in.act cmpN_ord act4
 exact this.1
theorem y1h (st : q43) : Rets P F.q0e [.agg two, .agg (.int 1 :: .int 1 :: .int 0 :: .int 0 :: j4w)] st (.tuple [.agg rX, .int 0]) := by
 have := q9e (newR_in (n := 2)) (by omega) (by simp) (by decide) ⟨1, 1, 0, 0, nE⟩ st
 unfold z5w z5x at this
 rw [act1] at this
 exact this
theorem y1i (st : q43) : Rets P F.q0e [.agg two, .agg (.int 1 :: .int 0 :: .int 0 :: .int 0 :: y1g)] st (.tuple [.agg rE, .int 580]) := by
 have := q9e (newR_in (n := 2)) (by omega) (by simp) (by decide) ⟨1, 0, 0, 0, k5o⟩ st
 unfold z5w z5x at this
 rw [act2] at this
 exact this
theorem y1j (st : q43) : Rets P F.q0e [.agg two, .agg (.int 3 :: .int 0 :: .int 0 :: .int 0 :: y1g)] st (.tuple [.agg rE, .int 1]) := by
 have := q9e (newR_in (n := 2)) (by omega) (by simp) (by decide) ⟨3, 0, 0, 0, k5o⟩ st
 unfold z5w z5x at this
 rw [act3] at this
 exact this
theorem y1k (st : q43) : Rets P F.q0e [.agg rX, .agg (.int 3 :: .int 0 :: .int 0 :: .int 0 :: y1g)] st (.tuple [.agg rY, .int 0]) := by
 have := q9e rx_in (by omega) (by simp) (by decide) ⟨3, 0, 0, 0, k5o⟩ st
 unfold z5w z5x at this
 rw [act4] at this
 exact this
theorem y6h (st : q43) : Rets P F.q11 [.agg [.nil, .nil, .nil]] st (.int 580) := by
 refine H.q11.view q5d rfl rfl ?_
 repeat' (first 
  | (with_reducible refine Fresh.intro fun b hb => ?_) <;> (try simp -dsimp -implicitDefEqProofs [*] at hb)
  | (simp -dsimp -implicitDefEqProofs [*]))
 exact .drop (st' := st) q5k ⟨rfl, rfl⟩
theorem j4y (st : q43) : Rets P F.q11 [.agg rY] st (.int 0) := q6t y96 (by omega) (by simp) (by decide) st
def zC : C44 := ⟨z44, rfl⟩
theorem j4z (st : q43) : Rets P F.q2d [.agg z44, .agg [.list false j4w 1]] st (.tuple [.agg (zC.row (.list false [.int 3, .int 1, .int 0, .int 3, .int 0, .int 0, .int 5, .int 7, .int 8] 1) (.list false [] 0)), .int 0]) := by
 exact z1l zC [nE] z8x (by simp) st
theorem z8y (st : q43) : Rets P F.q2y [.agg [.list false j4w 1]] st (.tuple [.list false [byM] 1, .int 0]) := k7a [nE] z8x (by simp) st
theorem j40 (t : Bool) (st : q43) : Rets P F.q04 [.list t [byM, byM] 2] st (.tuple [.agg [.list false j4w 1], .int 0]) := by
 have := k5n t [msg nE, msg nE] (by simp) (fun b hb => by
  have := k4e j4x
  simp at hb
  subst hb
  omega) st
 have hr := k5d j4x
 have hB : k7g [msg nE, msg nE] = true := by simp [k7g, hr]
 have hL : z3c [msg nE, msg nE] = [nE] := by
  obtain ⟨h1, h2⟩ := k1t [msg nE, msg nE]
  refine Rise.ext cmpN_ord h1 z8x fun x => ?_
  rw [h2]
  simp [hr, eq_comm]
 have hC : k6k [msg nE, msg nE] = [nE] := by unfold k6k; rw [hB, ← hL]; rfl
 have hE : k6l [msg nE, msg nE] = 0 := by unfold k6l; rw [hB]; rfl
 rw [hC, hE] at this
 exact this
theorem j41 (t : Bool) (st : q43) : Rets P F.q04 [.list t [.nil] 1] st (.tuple [.agg [.list false [] 0], .int 580]) := by
 have := k5n t [[]] (by simp) (by simp) st
 have hr : q9b [] = none := by decide
 have hB : k7g [[]] = false := by simp [k7g, hr]
 have hC : k6k [[]] = [] := by unfold k6k; rw [hB]; rfl
 have hE : k6l [[]] = 580 := by unfold k6l; rw [hB]; rfl
 rw [hC, hE] at this
 refine Rets.args (qs := [.list t [.list false [] 0] 1]) ⟨PLe.lists ⟨.nil1, trivial⟩, trivial⟩ this
theorem j7q (st : q43) : Rets P F.q2f [.int 2] st (.tuple [.agg two, .int 0]) := j4n 2 (by omega) st
theorem j7r (st : q43) : Rets P F.q2f [.int 0] st (.tuple [.agg rE, .int 1]) := y6e 0 (by omega) st
theorem z58 (t : Bool) (st : q43) : Rets P F.q0r [.list false j4w 1, .list t j4w 1] st (.bool true) := q7s false t [nE] (by simp) st
theorem y1l (st : q43) : Rets P F.q1q [.agg j4w] st byM := k1s nE j4x st
theorem q54 (st : q43) : Rets P F.q1w [] st (.bool true) := by
 refine H.q1w.view q5d rfl rfl ?_
 repeat' (first 
  | (with_reducible refine Fresh.intro fun b hb => ?_) <;> (try simp -dsimp -implicitDefEqProofs [*] at hb)
  | (with_reducible refine Rets.xcall (j7q _) ?_)
  | (with_reducible refine Rets.xcall (j7r _) ?_)
  | (with_reducible refine Rets.xcall (k5p _) ?_)
  | (with_reducible refine q5w (fun _ => k5p _) ?_)
  | (with_reducible refine q5w (fun _ => y1h _) ?_)
  | (with_reducible refine Rets.xcall (y1i _) ?_)
  | (with_reducible refine Rets.xcall (y1j _) ?_)
  | (with_reducible refine Rets.xcall (y1k _) ?_)
  | (with_reducible refine Lit.imm ?_)
  | (with_reducible refine DrawLate.intro [] ?_)
  | (with_reducible refine q51 ?_ ?_)
  | (with_reducible exact Cls.self _ _)
  | (with_reducible refine q57 ?_ ?_)
  | (simp -dsimp -implicitDefEqProofs [*]))
 refine q9f _ false (msg nE) rfl ?_
 repeat' (first 
  | (with_reducible refine Rets.xcall (k5p _) ?_)
  | (with_reducible refine Rets.xcall (y1l _) ?_)
  | (simp -dsimp -implicitDefEqProofs [*]))
 refine q9f _ false (msg nE) rfl ?_
 repeat' (first 
  | (with_reducible refine Rets.xcall (z58 _ _) ?_)
  | (simp -dsimp -implicitDefEqProofs [*]))
 refine Rets.xcall (j4z _) ?_
 repeat' (first 
  | (with_reducible refine Fresh.intro fun b hb => ?_) <;> (try simp -dsimp -implicitDefEqProofs [*] at hb)
  | (with_reducible refine Rets.xcall (z8y _) ?_)
  | (with_reducible refine Lit.imm ?_)
  | ((with_reducible refine Grow.intro ?_ fun b cap hb hc1 hc2 => ?_); omega) <;> (try simp -dsimp -implicitDefEqProofs [*] at hb)
  | (simp -dsimp -implicitDefEqProofs [*]))
 refine k1e (row := byM :: List.replicate (cap - 1) PV.any) (by simp) (by simp; omega) hc1 hc2 ?_
 repeat' (first 
  | ((with_reducible refine Grow.intro ?_ fun b cap hb hc1 hc2 => ?_); omega) <;> (try simp -dsimp -implicitDefEqProofs [*] at hb)
  | (simp -dsimp -implicitDefEqProofs [*]))
 refine k8l ?_ (StLe.refl _) (.cons (Frz.own T.Luint8 _ 0 2 cap 1 rfl hc1 hc2) .nil) (j40 false _) ?_
 ·exact hb
 repeat' (first 
  | (with_reducible refine Fresh.intro fun b hb => ?_) <;> (try simp -dsimp -implicitDefEqProofs [*] at hb)
  | (with_reducible refine Rets.xcall (k5p _) ?_)
  | (with_reducible refine Rets.xcall (z58 _ _) ?_)
  | (with_reducible refine Rets.xcall (j41 _ _) ?_)
  | (with_reducible refine Rets.xcall (y6h _) ?_)
  | (with_reducible refine Rets.xcall (j4y _) ?_)
  | (with_reducible refine Lit.imm ?_)
  | (with_reducible refine DrawLate.intro [] ?_)
  | (simp -dsimp -implicitDefEqProofs [*]))
 exact .drop (st' := st) q5k ⟨rfl, rfl⟩
end Go.Proofs.YtmlmoaimjifpgaaGreat
