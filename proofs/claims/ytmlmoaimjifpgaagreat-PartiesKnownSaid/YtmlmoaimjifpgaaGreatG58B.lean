/- Nobody forgets a note; nobody knows one of which no party was told. -/
import Derived.Test.YtmlmoaimjifpgaaGreatA58A
import Derived.Test.YtmlmoaimjifpgaaGreatG58W
namespace Go.Proofs.YtmlmoaimjifpgaaGreat
open Go.Pv Go.Pv.Cd
set_option maxRecDepth 100000
set_option maxHeartbeats 4000000
@[simp] theorem y6j {α : Type} (o : Option (Acc α)) : (q69 o).len? = some (q5m o).length := by cases o <;> rfl
theorem j0b (t : Bool) (l : List Note) (y : Note) (hy : y ∈ l) (hl : l.length ≤ 100000) (st : q43) : Rets P F.q16 [Note.lst t l, y.pv] st (.bool true) := by
 have hrl := Note.row_len l
 obtain ⟨k, hk, he⟩ := List.mem_iff_getElem.1 hy
 have ke := Hid.mk he
 clear he hy
 refine H.q16.view q5d rfl rfl ?_
 repeat' (first 
  | (with_reducible refine Fresh.intro fun b hb => ?_) <;> (try simp -dsimp -implicitDefEqProofs [*] at hb)
  | (simp -dsimp -implicitDefEqProofs [*]))
 revert b; intro yb hyb
 refine q44 (fun i : Nat => [(3, .ptr yb 0), (7, Note.lst t l), (8, .int l.length), (9, .int (i : Nat))]) (fun _ => (yb, .arr T.apiNote y.enc) :: st) (fun i => i ≤ k) (fun i => l.length - i) 0 (Nat.zero_le _) (by simp) (.refl _) ?_
 intro i hi
 have hw := q46 (n := i) (by omega)
 have hil : i < l.length := by omega
 have hsub := Note.row_sub l i hil
 by_cases hx : l[i] = y
 ·rw [hx] at hsub
  clear hx
  repeat' (first 
   | (with_reducible refine Fresh.intro fun b hb => ?_) <;> (try simp -dsimp -implicitDefEqProofs [*] at hb)
   | (simp -dsimp -implicitDefEqProofs [*]))
  exact .drop (st' := st) q5k ⟨rfl, rfl⟩
 ·have hik : i ≠ k := fun e => hx (by subst e; exact ke.out)
  generalize l[i] = x at *
  repeat' (first 
   | (with_reducible refine Fresh.intro fun b hb => ?_) <;> (try simp -dsimp -implicitDefEqProofs [*] at hb)
   | (simp -dsimp -implicitDefEqProofs [*]))
  exact Next.intro (i + 1) (by omega) (by omega) (by simp) q5k
theorem y1p {a : Acc Note} (ha : a.Ok Note.row 24) (y : Note) (hy : y ∈ a.l) (hl : a.l.length ≤ 100000) (st : q43) (hab : q5s st a.b) : Rets P F.q16 [.own a.b 0 a.l.length a.cap, y.pv] ((a.b, .arr T.apiNote a.R) :: st) (.bool true) := by
 obtain ⟨C, h1, h2⟩ := CompNote.acc_row ha
 have hle := ha.le
 rw [h1]
 clear ha h1
 obtain ⟨l, q, cap, R⟩ := a
 simp only at *
 have hrl := Note.row_len l
 obtain ⟨k, hk, he⟩ := List.mem_iff_getElem.1 hy
 have ke := Hid.mk he
 clear he hy
 refine H.q16.view q5d rfl rfl ?_
 repeat' (first 
  | (with_reducible refine Fresh.intro fun b hb => ?_) <;> (try simp -dsimp -implicitDefEqProofs [*] at hb)
  | (simp -dsimp -implicitDefEqProofs [*]))
 revert b; intro yb hyb
 refine q44 (fun i : Nat => [(3, .ptr yb 0), (7, .own q 0 l.length cap), (8, .int l.length), (9, .int (i : Nat))]) (fun _ => (yb, .arr T.apiNote y.enc) :: (q, .arr T.apiNote (Note.row l ++ C)) :: st) (fun i => i ≤ k) (fun i => l.length - i) 0 (Nat.zero_le _) (by simp) (.refl _) ?_
 intro i hi
 have hw := q46 (n := i) (by omega)
 have hil : i < l.length := by omega
 have hsub := CompNote.own_sub (C := C) hil
 by_cases hx : l[i] = y
 ·rw [hx] at hsub
  clear hx
  repeat' (first 
   | (with_reducible refine Fresh.intro fun b hb => ?_) <;> (try simp -dsimp -implicitDefEqProofs [*] at hb)
   | (simp -dsimp -implicitDefEqProofs [*]))
  exact .drop (st' := (q, .arr T.apiNote (Note.row l ++ C)) :: st) q5k ⟨rfl, rfl⟩
 ·have hik : i ≠ k := fun e => hx (by subst e; exact ke.out)
  generalize l[i] = x at *
  repeat' (first 
   | (with_reducible refine Fresh.intro fun b hb => ?_) <;> (try simp -dsimp -implicitDefEqProofs [*] at hb)
   | (simp -dsimp -implicitDefEqProofs [*]))
  exact Next.intro (i + 1) (by omega) (by omega) (by simp) q5k
theorem j5f (o : Option (Acc Note)) (y : Note) (hy : y ∈ q5m o) (hl : (q5m o).length ≤ 100000) (st : q43) (ho : accOk Note.row 24 st o) : Rets P F.q16 [q69 o, y.pv] (accS T.apiNote st o) (.bool true) := by
 cases o with
 | none => exact absurd hy List.not_mem_nil
 | some a => exact y1p ho.1 y hy hl st ho.2
open Go.Pv Go.Pv.Cd
set_option maxRecDepth 100000
set_option maxHeartbeats 4000000
abbrev rmC (m : Nat) (r : PR Note) : List PV := [.list false (prR r.peers) m, Pk.lst false (r.q.map q6q), .list false [] 0]
theorem StLe.accS {α : Type} {T : TypeId} {X Y : q43} {o : Option (Acc α)} (h : StLe X Y) : StLe (Go.Pv.accS T X o) (Go.Pv.accS T Y o) := by
 cases o with
 | none => exact h
 | some a => exact q6s h
theorem k5r {α : Type} {T : TypeId} {b : Nat} {x : PObj} {X : q43} {o : Option (Acc α)} (h : q5s (Go.Pv.accS T X o) b) : q8a [(b, x)] o := fun a ha => by
 subst ha
 exact ⟨⟨h.1.2, h.1.1⟩, trivial⟩
theorem j7y {α : Type} {T : TypeId} {b c : Nat} {x y : PObj} {X : q43} {o : Option (Acc α)} (h : q5s ((c, y) :: Go.Pv.accS T X o) b) (h2 : q5s (Go.Pv.accS T X o) c) : q8a [(b, x), (c, y)] o := fun a ha => by
 subst ha
 exact ⟨⟨h.2.1.2, h.2.1.1⟩, ⟨h2.1.2, h2.1.1⟩, trivial⟩
theorem j7z {α : Type} {row : List α → List PV} {k : Nat} {p q : Nat × PObj} {st : q43} {o : Option (Acc α)} (h : accOk row k ([p, q] ++ st) o) : accOk row k (p :: st) o := by
 cases o with
 | none => trivial
 | some a => exact ⟨h.1, h.2.1, h.2.2.2⟩
section
variable {α : Type} {row : List α → List PV} {k : Nat} {T : TypeId} {b c : Nat} {x y : PObj} {st : q43} {o : Option (Acc α)}
theorem z6f (ho : accOk row k ((b, x) :: (c, y) :: st) o) {z : PObj} : accOk row k ((c, z) :: st) o := by
 cases o with
 | none => trivial
 | some a => exact ⟨ho.1, ho.2.2⟩
theorem z6g (ho : accOk row k ((b, x) :: (c, y) :: st) o) (hbc : ¬ b = c) (z : PObj) : q71 (Go.Pv.accS T ((b, x) :: (c, y) :: st) o) c z = Go.Pv.accS T ((b, x) :: (c, z) :: st) o := by
 cases o with
 | none => simp [q71, hbc]
 | some a =>
  have := ho.2.2.1
  simp [q71, this.2, hbc]
end
theorem j5g (n : Nat) (hn : n < 256) (t : Bool) (l : List (Mv Note)) : Rets P F.q1n [u8v n, .list t (mvR l) l.length] [] (.bool true) := by
 have hml := z3g l
 obtain ⟨k, hk⟩ : ∃ k, k = n % 4 := ⟨_, rfl⟩
 obtain ⟨m, hm⟩ : ∃ m, m = 1 + k := ⟨_, rfl⟩
 have hm4 : 1 ≤ m ∧ m ≤ 4 := by omega
 have hwn : IntKind.i64.wrap (n : Int) = n := k1f (by omega)
 have hrem : (n : Int).tmod 4 = (k : Int) := by rw [hk]; exact (Int.ofNat_tmod n 4).symm
 have hw1 : IntKind.i64.wrap (1 + (k : Int)) = (m : Int) := by rw [q5a (by omega) (by omega), hm]; omega
 refine H.q1n.view q5d rfl rfl ?_
 by_cases hl : 14 < l.length
 ·have hlI : (14 : Int) < l.length := by omega
  clear hk hm
  repeat' (first 
   | (with_reducible refine Rets.xcall (q54 _) ?_)
   | (simp -dsimp -implicitDefEqProofs [*]))
  exact .same ⟨rfl, rfl⟩
 have hlI : ¬ (14 : Int) < l.length := by omega
 have hnew := fun st => j4n m (by omega) st
 rw [q59 newR_in] at hnew
 clear hk hm
 repeat' (first 
  | (with_reducible refine Fresh.intro fun b hb => ?_) <;> (try simp -dsimp -implicitDefEqProofs [*] at hb)
  | (with_reducible refine Rets.xcall (q54 _) ?_)
  | (with_reducible refine Rets.xcall (hnew _) ?_)
  | (simp -dsimp -implicitDefEqProofs [*]))
 revert b; intro rb
 clear hwn hrem hw1 hnew k hn
 refine q44 (σ := Nat × PR Note × Option (Acc Note)) (fun x => [(5, .int m), (6, .ptr rb 0), (8, q69 x.2.2), (42, .list t (mvR l) l.length), (43, .int l.length), (44, .int (x.1 : Nat))]) (fun x => accS T.apiNote [(rb, .arr T.apiRoom [.list false (prR x.2.1.peers) m, Pk.lst false (x.2.1.q.map q6q), .list false [] 0])] x.2.2)
  (fun x => x.1 ≤ l.length ∧ Hid (InR x.2.1 m (q5m x.2.2)) ∧ accOk Note.row 24 [(rb, .arr T.apiRoom [.list false (prR x.2.1.peers) m, Pk.lst false (x.2.1.q.map q6q), .list false [] 0])] x.2.2 ∧ (q5m x.2.2).length ≤ x.1 ∧ x.2.1.q.length ≤ x.1 * 14) (fun x => l.length - x.1) (0, j1v m, none)
  ⟨Nat.zero_le _, ⟨newR_in⟩, trivial, Nat.le_refl _, Nat.zero_le _⟩ (by simp) (.refl _) ?_
 rintro ⟨i, x, o⟩ ⟨hi, hin, ho, hol, hq⟩
 simp only at hi hin ho hol hq
 have hw := q46 (n := i) (by omega)
 by_cases hil : i < l.length
 case neg =>
  obtain rfl : i = l.length := by omega
  repeat' (simp -dsimp -implicitDefEqProofs [*])
  exact .drop (st' := []) (StLe.acc ho (fun _ _ h => by cases h)) ⟨rfl, rfl⟩
 have hsub := j4t l i hil
 generalize l[i] = mv at *
 have hdo := fun st => q9e hin.out (by omega) (by omega) (by omega) mv st
 have hxp : x.peers.length = m := hin.out.len
 rw [q59 hin.out] at hdo
 have gr := k7r (T := T.apiNote) ho
 cases hz : x.act q55 q5c mv with
 | inr e =>
  have he := j4u hz
  have e1 : z5w x mv = k0x := by unfold z5w; rw [hz]
  have e2 : z5x x mv = e := by unfold z5x; rw [hz]
  rw [e1, e2] at hdo
  have hne : ¬ e = 0 := by omega
  unfold k0x at hdo
  clear hz e1 e2 hxp
  repeat' (first 
   | (with_reducible refine Fresh.intro fun b hb => ?_) <;> (try simp -dsimp -implicitDefEqProofs [*] at hb)
   | (simp -dsimp -implicitDefEqProofs [*]))
  revert b; intro bm hbm
  have hn1 := (accB_new hbm).2.1
  repeat' (first 
   | (with_reducible refine Fresh.intro fun b hb => ?_) <;> (try simp -dsimp -implicitDefEqProofs [*] at hb)
   | (with_reducible refine Rets.xcall (hdo _) ?_)
   | (simp -dsimp -implicitDefEqProofs [*]))
  exact Next.intro (i + 1, x, o) ⟨by simp only; omega, hin, ho, by simp only; omega, by simp only; omega⟩ (by simp only; omega) (by simp) ((StLe.fresh hbm).trans (StLe.fresh hb))
 | inl y =>
  have e1 : z5w x mv = q6l y := by unfold z5w; rw [hz]
  have e2 : z5x x mv = 0 := by unfold z5x; rw [hz]
  obtain ⟨a1, a2⟩ := hin.out.act cmpN_ord hz
  have keeps := Hid.mk (fun j z => PR.act_keeps (c := q55) (okb := q5c) hz j (y := z))
  have hyq : y.q.length ≤ x.q.length + 14 := hin.out.act_len cmpN_ord hz (by omega) (by omega) (by omega)
  have hyp : y.peers.length = m := a1.len
  rw [e1, e2, q59 a1] at hdo
  have hyp2 : (prR y.peers).length = m := by rw [q62]; exact hyp
  by_cases hk : mv.kind = 1
  ·rw [if_pos hk] at a1
   have hck := fun st => q6t a1 (by omega) (by simp only [List.length_cons]; omega) (by omega) st
   rw [q59 a1] at hck
   have nin0 : Hid (InR y m (q5m o ++ [mv.note])) := ⟨a1.mono fun z hz => by
    rcases List.mem_cons.1 hz with rfl | hz
    ·simp
    ·exact List.mem_append_left _ hz⟩
   clear hz e1 e2 a1 a2
   repeat' (first 
    | (with_reducible refine Fresh.intro fun b hb => ?_) <;> (try simp -dsimp -implicitDefEqProofs [*] at hb)
    | (simp -dsimp -implicitDefEqProofs [*]))
   revert b; intro bm hbm
   have hn1 := (accB_new hbm).2.1
   repeat' (first 
    | (with_reducible refine Fresh.intro fun b hb => ?_) <;> (try simp -dsimp -implicitDefEqProofs [*] at hb)
    | (with_reducible refine Rets.xcall (hdo _) ?_)
    | (with_reducible refine Rets.xcall (hck _) ?_)
    | (with_reducible refine Lit.imm ?_)
    | (simp -dsimp -implicitDefEqProofs [*]))
   revert b; intro bx hb
   have hbx := (accB_new hb.2).2
   refine k2s (pre := [(bx, .arr T.apiRoom (rmC m y)), (bm, .arr T.apiMove (mvE mv))]) (bytes := 192) Note.row_len Note.row_append o ho (j7y hb hbm) [mv.note] (by simp) rfl (by omega) (by omega) fun o' ho1 hl' => ?_
   have ho' : accOk Note.row 24 [(bx, .arr T.apiRoom (rmC m y)), (rb, .arr T.apiRoom (rmC m x))] o' := j7z ho1
   have nin : Hid (InR y m (q5m o')) := ⟨by rw [hl']; exact nin0.out⟩
   have hlen' : (q5m o').length ≤ i + 1 := by rw [hl', List.length_append]; simp only [List.length_singleton]; omega
   have hS : StLe (accS T.apiNote [(bx, .arr T.apiRoom (rmC m y)), (rb, .arr T.apiRoom (rmC m x))] o') (accS T.apiNote [(bx, .arr T.apiRoom (rmC m y)), (bm, .arr T.apiMove (mvE mv)), (rb, .arr T.apiRoom (rmC m x))] o') := StLe.accS (q6s (StLe.fresh (accB_new hbm).2))
   have gy := StLe.acc (T := T.apiNote) ho1 (.refl _) bx (.arr T.apiRoom (rmC m y)) (by simp [q5p])
   simp only [List.cons_append, List.nil_append, rmC] at gy ⊢
   clear hl' ho1 nin0 hdo hck
   repeat' (simp -dsimp -implicitDefEqProofs [*])
   refine q44 (σ := Nat) (fun k => [(5, .int m), (6, .ptr rb 0), (8, q69 o'), (11, .ptr bx 0), (42, .list t (mvR l) l.length), (43, .int l.length), (44, .int i), (75, .list false (prR y.peers) m), (76, .int m), (77, .int (k : Nat))]) (fun _ => accS T.apiNote [(bx, .arr T.apiRoom (rmC m y)), (rb, .arr T.apiRoom (rmC m x))] o') (fun k => k ≤ m) (fun k => m - k) 0 (Nat.zero_le _) (by simp) hS ?_
   clear hS
   intro j hj
   have hwj := q46 (n := j) (by omega)
   by_cases hjm : j < m
   case neg =>
    have hje : m = j := by omega
    subst hje
    have gx := StLe.acc (T := T.apiNote) ho' (.refl _) bx (.arr T.apiRoom (rmC m y)) (by simp [q5p])
    have gs := fun z => z6g (T := T.apiNote) ho' hbx.1.2 z
    have gz := StLe.acc (T := T.apiNote) ho' (.refl _) rb (.arr T.apiRoom (rmC m x)) (by simp [q5p, hbx.1.2])
    unfold rmC at gx gs gz ⊢
    repeat' (simp -dsimp -implicitDefEqProofs [*])
    exact Next.intro (i + 1, y, o') ⟨by simp only; omega, nin, z6f ho', hlen', by simp only; omega⟩ (by simp only; omega) (by simp) (StLe.accS (StLe.fresh hbx))
   have hyl : j < y.peers.length := by rw [hyp]; exact hjm
   have hxl : j < x.peers.length := by rw [hxp]; exact hjm
   have p1 := k0f hyl
   have p2 : ∀ h : j < (prR y.peers).length, (prR y.peers)[j]'h = Note.lst false y.peers[j] := fun h => by
    rw [List.getElem?_eq_getElem h] at p1
    exact Option.some.inj p1
   have p3 := k0f hxl
   have p4 : ∀ h : j < (prR x.peers).length, (prR x.peers)[j]'h = Note.lst false x.peers[j] := fun h => by
    rw [List.getElem?_eq_getElem h] at p3
    exact Option.some.inj p3
   have k1 : ∀ z ∈ y.peers[j], z ∈ q5m o' := fun z hz => nin.out.sub _ (List.getElem_mem hyl) z hz
   have k2 : ∀ z ∈ x.peers[j], z ∈ y.peers[j] := fun z hz => by
    have := keeps.out j z (by unfold PR.know; rw [List.getD_eq_getElem?_getD, List.getElem?_eq_getElem hxl]; exact hz)
    unfold PR.know at this
    rw [List.getD_eq_getElem?_getD, List.getElem?_eq_getElem hyl] at this
    exact this
   have k3 : y.peers[j].length ≤ (q5m o').length := by
    have := nin.out.know_len cmpN_ord j
    unfold PR.know at this
    rw [List.getD_eq_getElem?_getD, List.getElem?_eq_getElem hyl] at this
    exact this
   have k4 : x.peers[j].length ≤ i + 1 := by
    have := hin.out.know_len cmpN_ord j
    unfold PR.know at this
    rw [List.getD_eq_getElem?_getD, List.getElem?_eq_getElem hxl, Option.getD_some] at this
    omega
   have H0 : ∃ lp lx : List Note, ((prR y.peers)[j]? = some (Note.lst false lp) ∧ (∀ h : j < (prR y.peers).length, (prR y.peers)[j]'h = Note.lst false lp) ∧ sub (prR y.peers) j 1 = some [Note.lst false lp]) ∧ ((prR x.peers)[j]? = some (Note.lst false lx) ∧ (∀ h : j < (prR x.peers).length, (prR x.peers)[j]'h = Note.lst false lx)) ∧ (Hid (∀ z ∈ lp, z ∈ q5m o') ∧ Hid (∀ z ∈ lx, z ∈ lp)) ∧ lp.length ≤ (q5m o').length ∧ lx.length ≤ i + 1 :=
    ⟨y.peers[j], x.peers[j], ⟨p1, p2, k9b p1⟩, ⟨p3, p4⟩, ⟨⟨k1⟩, ⟨k2⟩⟩, k3, k4⟩
   clear p1 p2 p3 p4 k1 k2 k3 k4
   obtain ⟨lp, lx, ⟨p1, p2, p5⟩, ⟨p3, p4⟩, ⟨g1, g2⟩, k3, k4⟩ := H0
   have k3I : ¬ ((q5m o').length : Int) < lp.length := by omega
   repeat' (first 
    | (with_reducible refine Fresh.intro fun b hb => ?_) <;> (try simp -dsimp -implicitDefEqProofs [*] at hb)
    | (simp -dsimp -implicitDefEqProofs [*]))
   revert b; intro bp hbp
   have hpn : q8a [(bp, .arr T.apiPeer [Note.lst false lp])] o' := k5r hbp
   have ho2 := accOk.app.2 ⟨ho', hpn⟩
   have hlr := Note.row_len lp
   refine q44 (σ := Nat) (fun k => [(5, .int m), (6, .ptr rb 0), (8, q69 o'), (11, .ptr bx 0), (13, .int j), (14, .ptr bp 0), (42, .list t (mvR l) l.length), (43, .int l.length), (44, .int i), (75, .list false (prR y.peers) m), (76, .int m), (77, .int (j : Nat)), (89, Note.lst false lp), (90, .int lp.length), (91, .int (k : Nat))]) (fun _ => accS T.apiNote ([(bp, .arr T.apiPeer [Note.lst false lp])] ++ [(bx, .arr T.apiRoom (rmC m y)), (rb, .arr T.apiRoom (rmC m x))]) o') (fun k => k ≤ lp.length) (fun k => lp.length - k) 0 (Nat.zero_le _) (by simp) (StLe.accDim hpn) ?_
   intro q hq
   have hwq := q46 (n := q) (by omega)
   by_cases hql : q < lp.length
   case pos =>
    have s2 : Hid (lp[q] ∈ q5m o') := ⟨g1.out _ (List.getElem_mem hql)⟩
    repeat' (first 
     | (with_reducible refine Fresh.intro fun b hb => ?_) <;> (try simp -dsimp -implicitDefEqProofs [*] at hb)
     | (simp -dsimp -implicitDefEqProofs [*]))
    have hpn2 : q8a [(b, .arr T.apiNote lp[q].enc)] o' := k5r hb
    refine q48 (PCalls.le (StLe.accDim hpn2) (j5f o' lp[q] s2.out (by omega) _ (accOk.app.2 ⟨ho2, hpn2⟩))) ?_
    rintro e s ⟨rfl, rfl⟩
    rw [q5l]
    repeat' (simp -dsimp -implicitDefEqProofs [*])
    exact Next.intro (q + 1) (by omega) (by omega) (by simp) (StLe.accS (StLe.fresh (accB_new hb).2))
   have hqe : q = lp.length := by omega
   subst hqe
   have gr := StLe.acc (T := T.apiNote) ho2 (.refl _) rb (.arr T.apiRoom (rmC m x)) (by
    have h1 := (accB_new hbp).2
    simp only [q5s] at h1
    simp [q5p, h1.1.2, h1.2.1.2, hbx.1.2])
   have gp := StLe.acc (T := T.apiNote) ho2 (.refl _) bp (.arr T.apiPeer [Note.lst false lp]) (by simp [q5p])
   simp only [rmC] at gr
   simp only [List.cons_append, List.nil_append] at gr gp ho2 ⊢
   repeat' (simp -dsimp -implicitDefEqProofs [*])
   have hlx := Note.row_len lx
   refine q44 (σ := Nat) (fun k => [(5, .int m), (6, .ptr rb 0), (8, q69 o'), (11, .ptr bx 0), (14, .ptr bp 0), (42, .list t (mvR l) l.length), (43, .int l.length), (44, .int i), (75, .list false (prR y.peers) m), (76, .int m), (77, .int (j : Nat)), (105, Note.lst false lx), (106, .int lx.length), (107, .int (k : Nat))]) (fun _ => accS T.apiNote ((bp, .arr T.apiPeer [Note.lst false lp]) :: [(bx, .arr T.apiRoom (rmC m y)), (rb, .arr T.apiRoom (rmC m x))]) o') (fun k => k ≤ lx.length) (fun k => lx.length - k) 0 (Nat.zero_le _) (by simp) (.refl _) ?_
   intro q hq
   have hwq := q46 (n := q) (by omega)
   by_cases hql : q < lx.length
   case pos =>
    have hh := fun st => j0b false lp lx[q] (g2.out _ (List.getElem_mem hql)) (by omega) st
    repeat' (first 
     | (with_reducible refine Fresh.intro fun b hb => ?_) <;> (try simp -dsimp -implicitDefEqProofs [*] at hb)
     | (simp -dsimp -implicitDefEqProofs [*]))
    have hne := (accB_new hb).2.1
    repeat' (first 
     | (with_reducible refine Rets.xcall (hh _) ?_)
     | (simp -dsimp -implicitDefEqProofs [*]))
    exact Next.intro (q + 1) (by omega) (by omega) (by simp) (StLe.fresh hb)
   have hqe : q = lx.length := by omega
   subst hqe
   repeat' (simp -dsimp -implicitDefEqProofs [*])
   exact Next.intro (j + 1) (by omega) (by omega) (by simp) (StLe.accS (StLe.fresh (accB_new hbp).2))
  ·rw [if_neg hk] at a1
   have hck := fun st => q6t a1 (by omega) (by omega) (by omega) st
   rw [q59 a1] at hck
   have nin0 : Hid (InR y m (q5m o)) := ⟨a1⟩
   clear hz e1 e2 a1 a2
   repeat' (first 
    | (with_reducible refine Fresh.intro fun b hb => ?_) <;> (try simp -dsimp -implicitDefEqProofs [*] at hb)
    | (simp -dsimp -implicitDefEqProofs [*]))
   revert b; intro bm hbm
   have hn1 := (accB_new hbm).2.1
   repeat' (first 
    | (with_reducible refine Fresh.intro fun b hb => ?_) <;> (try simp -dsimp -implicitDefEqProofs [*] at hb)
    | (with_reducible refine Rets.xcall (hdo _) ?_)
    | (with_reducible refine Rets.xcall (hck _) ?_)
    | (simp -dsimp -implicitDefEqProofs [*]))
   revert b; intro bx hb
   have hbx := (accB_new hb.2).2
   obtain ⟨o', rfl⟩ : ∃ o', o' = o := ⟨o, rfl⟩
   have hpn := k5r (x := .arr T.apiRoom (rmC m y)) hb.2
   have ho' : accOk Note.row 24 [(bx, .arr T.apiRoom (rmC m y)), (rb, .arr T.apiRoom (rmC m x))] o' := accOk.app.2 ⟨ho, hpn⟩
   have nin := nin0
   have hlen' : (q5m o').length ≤ i + 1 := by omega
   have hS : StLe (accS T.apiNote [(bx, .arr T.apiRoom (rmC m y)), (rb, .arr T.apiRoom (rmC m x))] o') ((bx, .arr T.apiRoom (rmC m y)) :: (bm, .arr T.apiMove (mvE mv)) :: accS T.apiNote [(rb, .arr T.apiRoom (rmC m x))] o') := (StLe.accDim hpn).trans (q6s (StLe.fresh hbm))
   clear nin0 hdo hck
   refine q44 (σ := Nat) (fun k => [(5, .int m), (6, .ptr rb 0), (8, q69 o'), (11, .ptr bx 0), (42, .list t (mvR l) l.length), (43, .int l.length), (44, .int i), (75, .list false (prR y.peers) m), (76, .int m), (77, .int (k : Nat))]) (fun _ => accS T.apiNote [(bx, .arr T.apiRoom (rmC m y)), (rb, .arr T.apiRoom (rmC m x))] o') (fun k => k ≤ m) (fun k => m - k) 0 (Nat.zero_le _) (by simp) hS ?_
   clear hS
   intro j hj
   have hwj := q46 (n := j) (by omega)
   by_cases hjm : j < m
   case neg =>
    have hje : m = j := by omega
    subst hje
    have gx := StLe.acc (T := T.apiNote) ho' (.refl _) bx (.arr T.apiRoom (rmC m y)) (by simp [q5p])
    have gs := fun z => z6g (T := T.apiNote) ho' hbx.1.2 z
    have gz := StLe.acc (T := T.apiNote) ho' (.refl _) rb (.arr T.apiRoom (rmC m x)) (by simp [q5p, hbx.1.2])
    unfold rmC at gx gs gz ⊢
    repeat' (simp -dsimp -implicitDefEqProofs [*])
    exact Next.intro (i + 1, y, o') ⟨by simp only; omega, nin, z6f ho', hlen', by simp only; omega⟩ (by simp only; omega) (by simp) (StLe.accS (StLe.fresh hbx))
   have hyl : j < y.peers.length := by rw [hyp]; exact hjm
   have hxl : j < x.peers.length := by rw [hxp]; exact hjm
   have p1 := k0f hyl
   have p2 : ∀ h : j < (prR y.peers).length, (prR y.peers)[j]'h = Note.lst false y.peers[j] := fun h => by
    rw [List.getElem?_eq_getElem h] at p1
    exact Option.some.inj p1
   have p3 := k0f hxl
   have p4 : ∀ h : j < (prR x.peers).length, (prR x.peers)[j]'h = Note.lst false x.peers[j] := fun h => by
    rw [List.getElem?_eq_getElem h] at p3
    exact Option.some.inj p3
   have k1 : ∀ z ∈ y.peers[j], z ∈ q5m o' := fun z hz => nin.out.sub _ (List.getElem_mem hyl) z hz
   have k2 : ∀ z ∈ x.peers[j], z ∈ y.peers[j] := fun z hz => by
    have := keeps.out j z (by unfold PR.know; rw [List.getD_eq_getElem?_getD, List.getElem?_eq_getElem hxl]; exact hz)
    unfold PR.know at this
    rw [List.getD_eq_getElem?_getD, List.getElem?_eq_getElem hyl] at this
    exact this
   have k3 : y.peers[j].length ≤ (q5m o').length := by
    have := nin.out.know_len cmpN_ord j
    unfold PR.know at this
    rw [List.getD_eq_getElem?_getD, List.getElem?_eq_getElem hyl] at this
    exact this
   have k4 : x.peers[j].length ≤ i + 1 := by
    have := hin.out.know_len cmpN_ord j
    unfold PR.know at this
    rw [List.getD_eq_getElem?_getD, List.getElem?_eq_getElem hxl, Option.getD_some] at this
    omega
   have H0 : ∃ lp lx : List Note, ((prR y.peers)[j]? = some (Note.lst false lp) ∧ (∀ h : j < (prR y.peers).length, (prR y.peers)[j]'h = Note.lst false lp) ∧ sub (prR y.peers) j 1 = some [Note.lst false lp]) ∧ ((prR x.peers)[j]? = some (Note.lst false lx) ∧ (∀ h : j < (prR x.peers).length, (prR x.peers)[j]'h = Note.lst false lx)) ∧ (Hid (∀ z ∈ lp, z ∈ q5m o') ∧ Hid (∀ z ∈ lx, z ∈ lp)) ∧ lp.length ≤ (q5m o').length ∧ lx.length ≤ i + 1 :=
    ⟨y.peers[j], x.peers[j], ⟨p1, p2, k9b p1⟩, ⟨p3, p4⟩, ⟨⟨k1⟩, ⟨k2⟩⟩, k3, k4⟩
   clear p1 p2 p3 p4 k1 k2 k3 k4
   obtain ⟨lp, lx, ⟨p1, p2, p5⟩, ⟨p3, p4⟩, ⟨g1, g2⟩, k3, k4⟩ := H0
   have k3I : ¬ ((q5m o').length : Int) < lp.length := by omega
   repeat' (first 
    | (with_reducible refine Fresh.intro fun b hb => ?_) <;> (try simp -dsimp -implicitDefEqProofs [*] at hb)
    | (simp -dsimp -implicitDefEqProofs [*]))
   revert b; intro bp hbp
   have hpn : q8a [(bp, .arr T.apiPeer [Note.lst false lp])] o' := k5r hbp
   have ho2 := accOk.app.2 ⟨ho', hpn⟩
   have hlr := Note.row_len lp
   refine q44 (σ := Nat) (fun k => [(5, .int m), (6, .ptr rb 0), (8, q69 o'), (11, .ptr bx 0), (13, .int j), (14, .ptr bp 0), (42, .list t (mvR l) l.length), (43, .int l.length), (44, .int i), (75, .list false (prR y.peers) m), (76, .int m), (77, .int (j : Nat)), (89, Note.lst false lp), (90, .int lp.length), (91, .int (k : Nat))]) (fun _ => accS T.apiNote ([(bp, .arr T.apiPeer [Note.lst false lp])] ++ [(bx, .arr T.apiRoom (rmC m y)), (rb, .arr T.apiRoom (rmC m x))]) o') (fun k => k ≤ lp.length) (fun k => lp.length - k) 0 (Nat.zero_le _) (by simp) (StLe.accDim hpn) ?_
   intro q hq
   have hwq := q46 (n := q) (by omega)
   by_cases hql : q < lp.length
   case pos =>
    have s2 : Hid (lp[q] ∈ q5m o') := ⟨g1.out _ (List.getElem_mem hql)⟩
    repeat' (first 
     | (with_reducible refine Fresh.intro fun b hb => ?_) <;> (try simp -dsimp -implicitDefEqProofs [*] at hb)
     | (simp -dsimp -implicitDefEqProofs [*]))
    have hpn2 : q8a [(b, .arr T.apiNote lp[q].enc)] o' := k5r hb
    refine q48 (PCalls.le (StLe.accDim hpn2) (j5f o' lp[q] s2.out (by omega) _ (accOk.app.2 ⟨ho2, hpn2⟩))) ?_
    rintro e s ⟨rfl, rfl⟩
    rw [q5l]
    repeat' (simp -dsimp -implicitDefEqProofs [*])
    exact Next.intro (q + 1) (by omega) (by omega) (by simp) (StLe.accS (StLe.fresh (accB_new hb).2))
   have hqe : q = lp.length := by omega
   subst hqe
   have gr := StLe.acc (T := T.apiNote) ho2 (.refl _) rb (.arr T.apiRoom (rmC m x)) (by
    have h1 := (accB_new hbp).2
    simp only [q5s] at h1
    simp [q5p, h1.1.2, h1.2.1.2, hbx.1.2])
   have gp := StLe.acc (T := T.apiNote) ho2 (.refl _) bp (.arr T.apiPeer [Note.lst false lp]) (by simp [q5p])
   simp only [rmC] at gr
   simp only [List.cons_append, List.nil_append] at gr gp ho2 ⊢
   repeat' (simp -dsimp -implicitDefEqProofs [*])
   have hlx := Note.row_len lx
   refine q44 (σ := Nat) (fun k => [(5, .int m), (6, .ptr rb 0), (8, q69 o'), (11, .ptr bx 0), (14, .ptr bp 0), (42, .list t (mvR l) l.length), (43, .int l.length), (44, .int i), (75, .list false (prR y.peers) m), (76, .int m), (77, .int (j : Nat)), (105, Note.lst false lx), (106, .int lx.length), (107, .int (k : Nat))]) (fun _ => accS T.apiNote ((bp, .arr T.apiPeer [Note.lst false lp]) :: [(bx, .arr T.apiRoom (rmC m y)), (rb, .arr T.apiRoom (rmC m x))]) o') (fun k => k ≤ lx.length) (fun k => lx.length - k) 0 (Nat.zero_le _) (by simp) (.refl _) ?_
   intro q hq
   have hwq := q46 (n := q) (by omega)
   by_cases hql : q < lx.length
   case pos =>
    have hh := fun st => j0b false lp lx[q] (g2.out _ (List.getElem_mem hql)) (by omega) st
    repeat' (first 
     | (with_reducible refine Fresh.intro fun b hb => ?_) <;> (try simp -dsimp -implicitDefEqProofs [*] at hb)
     | (simp -dsimp -implicitDefEqProofs [*]))
    have hne := (accB_new hb).2.1
    repeat' (first 
     | (with_reducible refine Rets.xcall (hh _) ?_)
     | (simp -dsimp -implicitDefEqProofs [*]))
    exact Next.intro (q + 1) (by omega) (by omega) (by simp) (StLe.fresh hb)
   have hqe : q = lx.length := by omega
   subst hqe
   repeat' (simp -dsimp -implicitDefEqProofs [*])
   exact Next.intro (j + 1) (by omega) (by omega) (by simp) (StLe.accS (StLe.fresh (accB_new hbp).2))
theorem j5h (n : Int) (hn : 0 ≤ n ∧ n < 256) (l : List (Mv Note)) : Rets P F.q1n [.val (.int .u8 n), .list false (mvR l) l.length] [] (.bool true) := by
 have := j5g n.toNat (by omega) false l
 have e : ((n.toNat : Nat) : Int) = n := by omega
 unfold u8v at this
 rw [e] at this
 exact this
open Go.ChangeShapes Go.WideShapes Go.ChangeAt Go.RowKit Go.Pv
set_option maxRecDepth 100000 in
theorem k24 (H : Type) (enc : TypeId × Value → H) (W : World) (base : Nat) (args : Array Value) (ds gs : List (DataW H)) (before : List MemPlace)
  (hval0 : ∀ (j : Nat) t v, Tryz.f6.params[j]? = some t → args[j]? = some v → Value.okWide Tryz.prog W .any base t v)
  (hW : DataW.Whole enc Tryz.prog Tryz.f6.params.toList Rows.partiesKnownSpec.vars false W args.toList ds gs before) :
  Calls Tryz.prog 6 args W fun e W' => ∃ v, e = .returned v ∧ Rows.partiesKnownSpec.post enc Tryz.prog Tryz.f6 false true false false W args v W' := by
 have hval : ∀ (j : Nat) t v, Tryz.f6.params[j]? = some t → args[j]? = some v → Value.okWide Tryz.prog W .any base t v := hval0
 have hW' := hW
 obtain ⟨p, q, hA0, hV, rfl, hfz, hnd⟩ := hW
 have hA : DataW.TrodAll enc Tryz.prog W 0 (fun _ => true) true Tryz.f6.params.toList args.toList ds p := hA0
 rw [Tryz.params6] at hA hval
 obtain ⟨v0, vs0, d0, ds0, p0, q0, hargs, rfl, rfl, h0, r0⟩ := trodAll_cons hA
 obtain ⟨v1, vs1, d1, ds1, p1, q1, rfl, rfl, rfl, h1, r1⟩ := trodAll_cons r0
 obtain ⟨rfl, rfl, rfl⟩ := trodAll_nil r1
 obtain rfl : args = #[v0, v1] := by cases args; simp_all
 obtain ⟨rfl, rfl⟩ := trodVars_none hV
 obtain ⟨a0, rfl, rfl, rfl, w0⟩ := open_int Tryz.underlying5 (hval 0 5 v0 rfl rfl) h0
 have k1 := h1
 have lt1 : ∀ x ∈ p1, x.block < W.heap.size := by obtain ⟨m, hm⟩ := k1; exact DataW.trod_lt m _ _ _ hm
 obtain ⟨x1, g1, w1⟩ := Opens.argL (gl := []) z3j Tryz.underlying78 (hval 1 78 v1 rfl rfl) h1
 clear hA0 hval0
 refine ((_root_.Go.Proofs.YtmlmoaimjifpgaaGreat.H.q1n).bridgeG (gl := []) (j5h a0 (j42 w0) x1) (w := W) (fun _ _ _ h => by cases h) (vs := [.int .u8 a0, v1]) ⟨rfl, w1, trivial⟩).mono fun e W' ⟨he, bel⟩ => ?_
 subst he
 exact ⟨_, rfl, _, _, _, [], _, [], hW', trodAll_mk1 (shut_bool Tryz.underlying4 _), (trodAll_cons_mk (shut_int Tryz.underlying5 w0) (trodAll_cons_mk (Go.RowKit.Below.trod k21 (by kernel_rfl) (of_decide_eq_true (by kernel_rfl)) k1 bel lt1) trodAll_mk0)), rfl, bel.frame _, fun h => by cases h⟩
set_option maxRecDepth 100000 in
theorem k4i (os : Os) (started : os.Started) (H : Type) (enc : TypeId × Value → H) :
  ReturnsInHanded {} Tryz.checked os 6 .any (Rows.partiesKnownSpec.pre6 enc Tryz.prog Tryz.f6 Rows.partiesKnownRow.domain false) (Rows.partiesKnownSpec.post enc Tryz.prog Tryz.f6 false true false false) := by
 refine returnsInHanded_of_change (C := Tryz.checked) own started (by kernel_rfl) Tryz.func6
  (ChangeSpec.witness6 (enc := enc) (C := Tryz.checked) false ⟨#[], #[.int .u8 0, .slice none 0 0], []⟩ 8 (by kernel_rfl) (by kernel_rfl) (by kernel_rfl) (by kernel_rfl)) ?_
 intro W base args ds gs before hval hW _ _
 exact k24 H enc W base args ds gs before hval hW
theorem partiesKnown_holds : Rows.PartiesKnownSaid :=
 OpenClaim.holds_of_wide 6 Tryz.f6 rfl rfl rfl rfl rfl rfl rfl ⟨rfl, rfl, rfl, rfl, rfl⟩ rfl rfl rfl rfl rfl (by kernel_rfl) Tryz.func6 (by kernel_rfl)
  (of_decide_eq_true (by kernel_rfl)) (by unfold Func.isWrapper; first | (rw [if_pos (by decide +kernel)]; kernel_rfl) | (rw [if_neg (by decide +kernel)]; exact ⟨rfl, rfl⟩))
  (fun os started H enc _ => k4i os started H enc)
end Go.Proofs.YtmlmoaimjifpgaaGreat
