/- Decoding. -/
import Derived.Test.YtmlmoaimjifpgaaGreatC58J
import Derived.Test.YtmlmoaimjifpgaaGreatN58A
import Derived.Test.YtmlmoaimjifpgaaGreatS58A
import Derived.Lib.Bytealg
import Derived.Lib.Strings
import Derived.WalkKit
namespace Go.Proofs.YtmlmoaimjifpgaaGreat
open Go.Pv Go.Pv.Cd
set_option maxRecDepth 100000
set_option maxHeartbeats 8000000
theorem j7d (v e : Nat) (st : q43) : Defs P F.q2p [.ptr v 0, .ptr e 0] .returning st .returning st := by
 refine H.q2p.defs q5d rfl rfl ?_
 repeat' (simp -dsimp -implicitDefEqProofs [*])
theorem z94 (v e : Nat) (a b c d : PV) (m : Int) (st : q43) (hne : ¬ v = e ∧ ¬ e = v) : Defs P F.q2p [.ptr v 0, .ptr e 0] (.panicking q8c) ((e, .arr T.apiErrno [.int m]) :: (v, .arr T.apiValue [a, b, c, d]) :: st) .returning ((e, .arr T.apiErrno [.int 10]) :: (v, .arr T.apiValue v0) :: st) := by
 refine H.q2p.defs q5d rfl rfl ?_
 repeat' (first 
  | (with_reducible refine DrawLate.intro [] ?_)
  | (simp -dsimp -implicitDefEqProofs [q8c, *]))
def j9b (L : List (BitVec 8)) : List PV := match Go.Pv.Cd.decode L with
 | some v => q8d v
 | none => v0
def j9c (L : List (BitVec 8)) : Int := match Go.Pv.Cd.decode L with
 | some _ => 0
 | none => 10
theorem z79 (L : List (BitVec 8)) (hL : L.length ≤ 100000) (st : q43) : Rets P F.q4a [q5v false L] st (.tuple [.agg (j9b L), .int (j9c L)]) := by
 have vs := j1j 16 (by omega) L hL
 rw [show (16 : Int) - ((16 : Nat) : Int) = 0 by decide] at vs
 refine H.q4a.view q5d rfl rfl ?_
 repeat' (first 
  | (with_reducible refine Fresh.intro fun b hb => ?_) <;> (try simp -dsimp -implicitDefEqProofs [*] at hb)
  | (simp -dsimp -implicitDefEqProofs [H.q2p.enters, *]))
 rename_i v hv e he
 refine q48 (vs b _ hb) ?_
 clear vs
 intro en s h
 unfold ValP at h
 cases hd : decV 16 L with
 | none =>
  rw [hd] at h
  obtain ⟨e1, e2⟩ := h
  subst e1
  subst e2
  have c1 : j9b L = v0 := by unfold j9b Go.Pv.Cd.decode; rw [hd]
  have c2 : j9c L = 10 := by unfold j9c Go.Pv.Cd.decode; rw [hd]
  rw [c1, c2]
  clear hd c1 c2
  repeat' (simp -dsimp -implicitDefEqProofs [q8e, *])
  refine Defs.xdef (z94 v e _ _ _ _ 0 st he.1) ?_
  repeat' (simp -dsimp -implicitDefEqProofs [q8e, *])
  exact RetView.drop (st' := st) q5k ⟨rfl, rfl⟩
 | some q =>
  obtain ⟨w, R⟩ := q
  rw [hd] at h
  obtain ⟨e1, e2⟩ := h
  subst e1
  subst e2
  cases R with
  | nil =>
   have c1 : j9b L = q8d w := by unfold j9b Go.Pv.Cd.decode; rw [hd]
   have c2 : j9c L = 0 := by unfold j9c Go.Pv.Cd.decode; rw [hd]
   rw [c1, c2]
   have hc := k3j w
   generalize q8d w = W at *
   have hsub := sub_all hc
   clear hd c1 c2
   repeat' (first 
    | (with_reducible refine Rets.xcall (k4b _ _) ?_)
    | (with_reducible refine Defs.xdef (j7d _ _ _) ?_)
    | (simp -dsimp -implicitDefEqProofs [q8e, *]))
   exact RetView.drop (st' := st) q5k ⟨rfl, rfl⟩
  | cons c R =>
   have c1 : j9b L = v0 := by unfold j9b Go.Pv.Cd.decode; rw [hd]
   have c2 : j9c L = 10 := by unfold j9c Go.Pv.Cd.decode; rw [hd]
   rw [c1, c2]
   have hc := k3j w
   generalize q8d w = W at *
   have hn : ¬ (R.length : Int) + 1 = 0 := by omega
   obtain ⟨w1, w2, w3, w4, hW⟩ : ∃ a b c d, W = [a, b, c, d] := by
    match W, hc with
    | [a, b, c, d], _ => exact ⟨_, _, _, _, rfl⟩
   subst hW
   clear hd c1 c2 hc
   repeat' (first 
    | (with_reducible refine Panics.xcall (k4c _ _) ?_)
    | (simp -dsimp -implicitDefEqProofs [q8e, *]))
   refine Defs.xdef (PDef.le (by exact StLe.fresh (by exact hb)) (z94 v e _ _ _ _ 0 st he.1)) ?_
   repeat' (simp -dsimp -implicitDefEqProofs [q8e, *])
   exact RetView.drop (st' := st) q5k ⟨rfl, rfl⟩
open Go.Pv Go.Pv.Sha
set_option maxRecDepth 100000
set_option maxHeartbeats 4000000
def k88 (D : Nat) (st : q43) (e : PEnd) (s : q43) : Prop := ∃ d : Nat, d ≤ D ∧ e = .ret (.tuple [.int (d : Int), .bool true]) ∧ s = st
theorem j4a (n : Nat) (st : q43) : PCalls P F.q2e [.agg (j16 n)] st (k88 0 st) := by
 refine H.q2e.view q5d rfl rfl ?_
 by_cases hn : n = 0
 ·subst hn
  repeat' (first 
   | (with_reducible refine Fresh.intro fun b hb => ?_) <;> (try simp -dsimp -implicitDefEqProofs [*] at hb)
   | (simp -dsimp -implicitDefEqProofs [*]))
  exact .drop q5k ⟨0, Nat.le_refl _, rfl, rfl⟩
 ·have hn' : ¬ (n : Int) = 0 := by omega
  repeat' (first 
   | (with_reducible refine Fresh.intro fun b hb => ?_) <;> (try simp -dsimp -implicitDefEqProofs [*] at hb)
   | (simp -dsimp -implicitDefEqProofs [*]))
  exact .drop q5k ⟨0, Nat.le_refl _, rfl, rfl⟩
theorem j1k (D : Nat) (l : List Wv) (hl0 : 0 < l.length) (hl : l.length ≤ 100) (hD : D ≤ 10) (st : q43) (hf : ∀ v ∈ l, ∀ st, PCalls P F.q2e [.agg v.row] st (k88 D st)) : PCalls P F.q2e [.agg (q85 (l.flatMap Wv.row) l.length)] st (k88 (D + 1) st) := by
 refine H.q2e.view q5d rfl rfl ?_
 have h0' : ¬ (l.length : Int) = 0 := by omega
 repeat' (first 
  | (with_reducible refine Fresh.intro fun b hb => ?_) <;> (try simp -dsimp -implicitDefEqProofs [*] at hb)
  | (simp -dsimp -implicitDefEqProofs [*]))
 refine q44 (fun y : Nat × Nat => [(2, .int (y.2 : Nat)), (55, .list false (l.flatMap Wv.row) l.length), (56, .int l.length), (57, .int (y.1 : Nat))]) (fun _ => st) (fun y => y.1 ≤ l.length ∧ y.2 ≤ D) (fun y => l.length - y.1) (0, 0) ⟨by omega, by omega⟩ (by simp) q5k ?_
 rintro ⟨i, d⟩ ⟨hi, hd⟩
 simp only at hi hd
 by_cases hil : i < l.length
 ·have hv := hf l[i] (List.getElem_mem hil)
  have hs := q78 (enc := Wv.row) (k := 4) (fun _ => rfl) l i hil
  have hfl := q53 (enc := Wv.row) (k := 4) (fun _ => rfl) l
  have hwi := q46 (n := i) (by omega)
  generalize l[i] = v at *
  generalize hrows : l.flatMap Wv.row = rows at *
  repeat' (first 
   | (with_reducible refine Fresh.intro fun b hb => ?_) <;> (try simp -dsimp -implicitDefEqProofs [*] at hb)
   | (simp -dsimp -implicitDefEqProofs [*]))
  refine q48 (hv _) ?_
  rintro e s2 ⟨d2, hd2, rfl, rfl⟩
  rw [q5l]
  clear hv
  by_cases hdd : d < d2
  ·repeat' (simp -dsimp -implicitDefEqProofs [*])
   exact Next.intro (i + 1, d2) ⟨by simp only; omega, hd2⟩ (by simp only; omega) (by simp) q5k
  ·repeat' (simp -dsimp -implicitDefEqProofs [*])
   exact Next.intro (i + 1, d) ⟨by simp only; omega, hd⟩ (by simp only; omega) (by simp) q5k
 ·have e : i = l.length := by omega
  subst e
  have hwd := q46 (n := d) (by omega)
  repeat' (simp -dsimp -implicitDefEqProofs [*])
  exact .same ⟨d + 1, by omega, by simp, rfl⟩
open Go.Pv Go.Pv.Sha
set_option maxRecDepth 100000
set_option maxHeartbeats 4000000
theorem k89 (c0 c1 c2 c3 : PV) (D : Nat) (hD : D ≤ 16) (st : q43) (hf : ∀ st, PCalls P F.q2e [.agg [c0, c1, c2, c3]] st (k88 D st)) : Rets P F.q4e [.agg [c0, c1, c2, c3]] st (.int 0) := by
 refine H.q4e.pure q5d rfl rfl ?_
 repeat' (first 
  | (with_reducible refine Fresh.intro fun b hb => ?_) <;> (try simp -dsimp -implicitDefEqProofs [*] at hb)
  | (simp -dsimp -implicitDefEqProofs [*]))
 refine q48 (hf _) ?_
 rintro e s ⟨d, hd, rfl, rfl⟩
 rw [q5l]
 clear hf
 have h16 : ¬ (16 : Int) < d := by omega
 repeat' (simp -dsimp -implicitDefEqProofs [*])
theorem Frozen.mono {I I' : Imm} {b : Nat} {o : PObj} (h : Frozen I b o) (hle : I.le I') : Frozen I' b o := by
 obtain ⟨r, h1, h2⟩ := h
 exact ⟨r, hle _ _ h1, k0j hle h2⟩
theorem Sees.freeze2 {b c : Nat} {o x : PObj} {p q : PV} {st : q43} (hn : q5s ((c, x) :: st) b) (hm : q5s st c) (hf : ∀ I, Frozen I b o → Frozen I c x → ∀ v, vrep I p v → vrep I q v) : Sees p ((b, o) :: (c, x) :: st) q st := ⟨fun I w v h1 h2 => by
 obtain ⟨I1, h3, h4, h5⟩ := h1.freeze hn
 obtain ⟨I2, h6, h7, h8⟩ := h4.freeze hm
 exact ⟨I2, Imm.le_trans h3 h6, h7, hf I2 (Frozen.mono h5 h6) h8 v (q6r h6 _ _ (q6r h3 _ _ h2))⟩⟩
theorem Frz.wtab {b : Nat} {o : PObj} {c d : PV} (h : Frz b o c d) : Frzs b o (wtab c) (wtab d) :=
 .cons (.refl _) (.cons (.refl _) (.cons (.refl _) (.cons (.func _ .nil (.cons h .nil)) .nil)))
theorem k95 (st : q43) : PCalls P F.q3z [] st (fun e s => ∃ c, e = .ret (.iptr (wtab (z93 (wtab (z93 (wtab c))))) 0) ∧ s = st) := by
 refine H.q3z.view q5d rfl rfl ?_
 repeat' (first 
  | (with_reducible refine Fresh.intro fun b hb => ?_) <;> (try simp -dsimp -implicitDefEqProofs [*] at hb)
  | (simp -dsimp -implicitDefEqProofs [*]))
 revert b
 intro w hw
 revert b
 intro p hp hw
 have e1 : Frz p (.arr T.q42 (wtab (.ptr w 0))) (.ptr p 0) (.iptr (wtab (.ptr w 0)) 0) := .ptr _ _ 0 rfl
 have e2 : Frz w (.arr T.codecwriter [.ptr p 0]) (.ptr w 0) (.iptr [.ptr p 0] 0) := .ptr _ _ 0 rfl
 refine .sees (Sees.freeze2 (q := .iptr (wtab (z93 (wtab (z93 (wtab (.ptr w 0)))))) 0) hw hp fun I fw fp v h0 => ?_) (.same ⟨⟨_, rfl⟩, rfl⟩)
 have h1 := Frz.vrep fp e1 h0
 have h2 := Frz.vrep fw (.iptr 0 (Frz.wtab e2)) h1
 have h3 := Frz.vrep fp (.iptr 0 (Frz.wtab (.iptr 0 (.cons e1 .nil)))) h2
 have h4 := Frz.vrep fw (.iptr 0 (Frz.wtab (.iptr 0 (.cons (.iptr 0 (Frz.wtab e2)) .nil)))) h3
 exact Frz.vrep fp (.iptr 0 (Frz.wtab (.iptr 0 (.cons (.iptr 0 (Frz.wtab (.iptr 0 (.cons e1 .nil)))) .nil)))) h4
theorem z8a (l : List Wv) (hl0 : 0 < l.length) (hl : l.length ≤ 100) (D : Nat) (hD : D ≤ 10) (hok : ∀ c, ∀ v ∈ l, v.Ok 210000 (wtab (z93 (wtab c)))) (hf : ∀ v ∈ l, ∀ st, PCalls P F.q2e [.agg v.row] st (k88 D st)) (st : q43) :
  Rets P F.q3x [.agg (q85 (l.flatMap Wv.row) l.length)] st (.tuple [q5v false (3#8 :: (k1n l.length ++ l.flatMap Wv.B)), .int 0]) := by
 refine H.q3x.view q5d rfl rfl ?_
 have hc := fun st => k89 (.int 3) (.int 0) k0w (.list false (l.flatMap Wv.row) l.length) (D + 1) (by omega) st (fun st => j1k D l hl0 hl hD st hf)
 repeat' (first 
  | (with_reducible refine Fresh.intro fun b hb => ?_) <;> (try simp -dsimp -implicitDefEqProofs [*] at hb)
  | (with_reducible refine Rets.xcall (hc _) ?_)
  | (simp -dsimp -implicitDefEqProofs [-q45, *]))
 clear hc
 refine DrawLate.by (Cls ((b, .arr T.apiValue (q85 (l.flatMap Wv.row) l.length)) :: st) []) (Cls.self _ _) ?_
 repeat' (simp -dsimp -implicitDefEqProofs [-q45, *])
 refine q48 (k95 _) ?_
 rintro e s2 ⟨c, rfl, rfl⟩
 rw [q5l]
 refine ⟨Cls.self _ _, ?_⟩
 have hok' := hok c
 clear hok
 have htab : (wtab (z93 (wtab (z93 (wtab c)))))[3]? = some (.func (.func F.q2j) [] [z93 (wtab (z93 (wtab c)))]) := rfl
 have kok : Hid (∀ v ∈ l, v.Ok 210000 (wtab (z93 (wtab c)))) := ⟨hok'⟩
 clear hok'
 generalize wtab (z93 (wtab c)) = tab at *
 generalize wtab (z93 tab) = tab3 at *
 repeat' (simp -dsimp -implicitDefEqProofs [-q45, *])
 have hB := k5f l fun v hv => (kok.out v hv).B
 have hn := q67 (n := l.length) (by omega)
 refine q48 (k94 0 (by omega) tab l hl (fun v hv => by simpa using kok.out v hv) none ((b, .arr T.apiValue (q85 (l.flatMap Wv.row) l.length)) :: st) trivial (by simp)) ?_
 rintro e s2 ⟨o, ho, hol, rfl, rfl⟩
 rw [q5l]
 simp only [q7f, List.nil_append] at hol
 refine ⟨q7g ho (Cls.self _ _), ?_⟩
 have kl : Hid (q5m o = 3#8 :: (k1n l.length ++ l.flatMap Wv.B)) := ⟨hol⟩
 clear hol kok htab hf
 repeat' (simp -dsimp -implicitDefEqProofs [-q45, *])
 exact RetView.accP2 (row := q5b) rfl ho (.drop q5k ⟨by rw [kl.out], rfl⟩)
open Go.Pv Go.Pv.Cd
set_option maxRecDepth 100000
set_option maxHeartbeats 8000000
theorem k2x (n : Nat) : k1n n = z9p n := by
 induction n using Nat.strongRecOn with
 | _ n ih =>
  by_cases h : n < 128
  ·rw [k6d h, z7t h]
  ·rw [k86 h, z7u h, ih (n / 128) (by omega)]
def iv (x : Int) : Wv := ⟨1, .int x, k0w, .nil, 1#8 :: k1n (2 * x.toNat)⟩
def rI (l : List Int) : List PV := l.flatMap fun x => [.int 1, .int x, k0w, .nil]
theorem z95 : ∀ l : List Int, (rI l).length = l.length * 4
 | [] => rfl
 | x :: l => by
  have := z95 l
  simp only [rI, List.flatMap_cons, List.length_append, List.length_cons, List.length_nil] at this ⊢
  omega
theorem z5p (l m : List Int) : rI (l ++ m) = rI l ++ rI m := by simp [rI]
theorem j4b (l : List Int) : (l.map iv).flatMap Wv.row = rI l := by
 rw [List.flatMap_map]
 rfl
theorem z21 : ∀ (l : List Int), (∀ x ∈ l, 0 ≤ x) → (l.map iv).flatMap Wv.B = Vl.encs (l.map .int)
 | [], _ => rfl
 | x :: l, h => by
  have h0 := h x (List.mem_cons_self ..)
  have ih := z21 l fun y hy => h y (List.mem_cons_of_mem _ hy)
  rw [List.map_cons, List.flatMap_cons, ih, List.map_cons, Vl.encs, Vl.enc]
  congr 1
  show 1#8 :: k1n (2 * x.toNat) = 1#8 :: z9p (zig x)
  rw [k2x]
  unfold zig
  rw [if_pos h0]
theorem z8b (l : List Int) (hl0 : 0 < l.length) (hl : l.length ≤ 100) (h : ∀ x ∈ l, 0 ≤ x ∧ x ≤ 2097152) (st : q43) :
  Rets P F.q3x [.agg (q85 (rI l) l.length)] st (.tuple [q5v false (Vl.list (l.map .int)).enc, .int 0]) := by
 have := z8a (l.map iv) (by simpa using hl0) (by simpa using hl) 0 (by omega) (fun c v hv => by
  obtain ⟨x, hx, rfl⟩ := List.mem_map.1 hv
  have hx := h x hx
  refine ⟨show 1 < 4 by decide, ?_, ?_⟩
  ·show (1#8 :: k1n (2 * x.toNat)).length ≤ 2000
   have := q67 (n := 2 * x.toNat) (by omega)
   simp only [List.length_cons]
   omega
  ·refine ⟨F.q2i, [], rfl, fun o st ho hol => ?_⟩
   have := z2z x.toNat (by omega) o st ho (by omega)
   have e : ((x.toNat : Nat) : Int) = x := by omega
   unfold j16 at this
   rw [e] at this
   exact this) (fun v hv st => by
  obtain ⟨x, hx, rfl⟩ := List.mem_map.1 hv
  have hx := h x hx
  have := j4a x.toNat st
  have e : ((x.toNat : Nat) : Int) = x := by omega
  unfold j16 at this
  rw [e] at this
  exact this) st
 rw [j4b, z21 l fun x hx => (h x hx).1, k2x, List.length_map] at this
 rw [Vl.enc, List.length_map]
 exact this
theorem z23 (f : Nat → PV) : ∀ (n k i : Nat), i < n → (z9y f k n)[i]? = some (f (k + i))
 | 0, _, _, h => absurd h (Nat.not_lt_zero _)
 | n + 1, k, 0, _ => rfl
 | n + 1, k, i + 1, h => by
  rw [z9y, List.getElem?_cons_succ, z23 f n (k + 1) i (by omega)]
  congr 2
  omega
theorem z24 (f : Nat → PV) : ∀ (n k : Nat), (z9y f k n).length = n
 | 0, _ => rfl
 | n + 1, k => by rw [z9y, List.length_cons, z24 f n (k + 1)]
theorem q83 (n : Note) (hn : q5c n = true) (st : q43) : Rets P F.q17 [n.pv] st (.str (z20 (msg n))) := by
 have hs := q97 hn
 have he := fun st => z8b n.ints (by simp) (by simp) hs st
 refine H.q17.view q5d rfl rfl ?_
 repeat' (first 
  | (with_reducible refine Fresh.intro fun b hb => ?_) <;> (try simp -dsimp -implicitDefEqProofs [*] at hb)
  | (with_reducible refine Rets.xcall (q9i _ _) ?_)
  | (simp -dsimp -implicitDefEqProofs [*]))
 refine q44 (fun y : Nat × Option (Acc Int) => [(8, .list false (z9y (.ptr b) 0 24) 24), (9, .int 24), (10, .int y.1), (3, q69 y.2)]) (fun y => accS T.apiValue ((b, .arr T.apiNote n.enc) :: st) y.2) (fun y => y.1 ≤ 24 ∧ accOk rI 4 ((b, .arr T.apiNote n.enc) :: st) y.2 ∧ Hid (q5m y.2 = n.ints.take y.1)) (fun y => 24 - y.1) (0, none) ⟨Nat.zero_le _, trivial, ⟨rfl⟩⟩ (by simp) (.refl _) ?_
 rintro ⟨i, o⟩ ⟨hi, ho, hol⟩
 replace hi : i ≤ 24 := hi
 replace ho : accOk rI 4 ((b, .arr T.apiNote n.enc) :: st) o := ho
 replace hol : Hid (q5m o = n.ints.take i) := hol
 simp only
 by_cases hil : i < 24
 case neg =>
  obtain rfl : i = 24 := by omega
  have hL : q5m o = n.ints := hol.out
  clear hol hs
  have hbs := q9w (msg n)
  cases o with
  | none => exact absurd (congrArg List.length hL) (by simp)
  | some a =>
   have hfr := Frz.acc (T := T.apiValue) ho.1
   obtain ⟨A, ab, cap, C⟩ := a
   simp only [q7q, q5r, k52, q79] at ho hfr hL ⊢
   subst hL
   obtain ⟨ha, hnb⟩ := ho
   replace ha := Hid.mk ha
   replace hnb := Hid.mk hnb
   replace hfr := Hid.mk hfr
   have hl24 : n.ints.length = 24 := rfl
   have he2 : ∀ st, Rets P F.q3x [.agg [.int 3, .int 0, k0w, .list false (rI n.ints) 24]] st (.tuple [q5v false (msg n), .int 0]) := he
   clear he
   repeat' (simp -dsimp -implicitDefEqProofs [*])
   refine k8l (b := ab) (o := .arr T.apiValue C) hnb.out (.refl _) (.cons (.agg (.cons (.refl _) (.cons (.refl _) (.cons (.refl _) (.cons hfr.out .nil))))) .nil) (he2 _) ?_
   clear hfr he2 ha hnb
   repeat' (simp -dsimp -implicitDefEqProofs [*])
   exact RetView.drop (st' := st) q5k ⟨rfl, rfl⟩
 have hwi := q46 (n := i) (by omega)
 have hg := k3i (T := T.apiValue) ho (b := b) (x := .arr T.apiNote n.enc) (by simp)
 have p1 := z23 (.ptr b) 24 0 i hil
 rw [Nat.zero_add] at p1
 have P1 := q9v p1
 have q1 : n.enc[i]? = some (.int n.ints[i]) := by
  rw [Note.enc_ints, List.getElem?_map, List.getElem?_eq_getElem (by simpa using hil)]
  rfl
 have hpl := z24 (.ptr b) 24 0
 have hx : Hid (n.ints.take (i + 1) = n.ints.take i ++ [n.ints[i]]) := ⟨List.take_succ_eq_append_getElem (by simpa using hil)⟩
 have hol2 : Hid ((q5m o).length = i) := ⟨by rw [hol.out, List.length_take, Note.ints_len]; omega⟩
 obtain ⟨x, hxd⟩ : ∃ x, x = n.ints[i] := ⟨_, rfl⟩
 rw [← hxd] at q1 hx
 have Q1 := q9v q1
 clear hs he hxd
 repeat' (first 
  | (with_reducible refine Lit.imm ?_)
  | (with_reducible refine And.intro (fun h => ?_) (fun h => ?_)) <;> (try (exfalso; omega))
  | ((with_reducible refine q5i ?_ fun hk => ?_); omega)
  | (simp -dsimp -implicitDefEqProofs [-q45, *]))
 refine q82 z95 z5p o ho [x] rfl rfl (by omega) (by rw [hol2.out]; omega) fun o' ho' hl' => ?_
 have kl : Hid (q5m o' = n.ints.take (i + 1)) := ⟨by rw [hl', hol.out, hx.out]⟩
 clear hl'
 repeat' (simp -dsimp -implicitDefEqProofs [-q45, *])
 exact Next.intro (i + 1, o') ⟨by simp only; omega, ho', kl⟩ (by simp only; omega) (by simp) q5k
open Go.Pv Go.Pv.Cd
set_option maxRecDepth 100000
set_option maxHeartbeats 8000000
theorem z8c (a b : ByteArray) (st : q43) : Rets P F.q4c [.str a, .str b] st (.int (Lib.compareBytes a.data.toList b.data.toList)) :=
 .inr ⟨fun I w vs hS hv => by
  obtain ⟨v1, v2, rfl, e1, e2⟩ : ∃ v1 v2, vs = [v1, v2] ∧ vrep I (.str a) v1 ∧ vrep I (.str b) v2 := by
   match vs, hv with
   | [v1, v2], hv => simp only [vreps] at hv; exact ⟨v1, v2, rfl, hv.1, hv.2.1⟩
  simp only [vrep] at e1 e2
  subst e1 e2
  refine ⟨_, w, by rw [run_callFunc_extern Tryz.func210 (by kernel_rfl) (by kernel_rfl) (by kernel_rfl) (e := Extern.BytealgCompare.compare) (by kernel_rfl), Lib.run_compareString]; rfl, I, st, I.le_refl, Calm.refl w, hS, _, by simp only [vrep], rfl, rfl⟩⟩
theorem j4c (a b : ByteArray) (st : q43) : Rets P F.q1j [.str a, .str b] st (.int (Lib.compareBytes a.data.toList b.data.toList)) := by
 refine H.q1j.pure q5d rfl rfl ?_
 repeat' (first 
  | (with_reducible refine Rets.xcall (z8c _ _ _) ?_)
  | (simp -dsimp -implicitDefEqProofs [*]))
theorem z8d (a b : ByteArray) (st : q43) : Rets P F.q3y [.str a, .str b] st (.int (Lib.compareBytes a.data.toList b.data.toList)) := by
 refine H.q3y.pure q5d rfl rfl ?_
 repeat' (first 
  | (with_reducible refine Rets.xcall (j4c _ _ _) ?_)
  | (simp -dsimp -implicitDefEqProofs [*]))
theorem k2y (a b : Note) (ha : q5c a = true) (hb : q5c b = true) (st : q43) : Rets P F.q06 [a.pv, b.pv] st (.int (q55 a b)) := by
 have ma := fun st => q83 a ha st
 have mb := fun st => q83 b hb st
 refine H.q06.pure q5d rfl rfl ?_
 repeat' (first 
  | (with_reducible refine Fresh.intro fun b hb => ?_) <;> (try simp -dsimp -implicitDefEqProofs [*] at hb)
  | (with_reducible refine Rets.xcall (ma _) ?_)
  | (with_reducible refine Rets.xcall (mb _) ?_)
  | (with_reducible refine Rets.xcall (z8d _ _ _) ?_)
  | (with_reducible refine DrawLate.intro [] ?_)
  | (simp -dsimp -implicitDefEqProofs [*]))
 rfl
theorem q9d (e : Int) (st : q43) : Rets P F.q1p [.bool true, .int e] st (.tuple []) := by
 refine H.q1p.pure q5d rfl rfl ?_
 repeat' (simp -dsimp -implicitDefEqProofs [*])
theorem q98 (e : Int) (st : q43) : Panics P F.q1p [.bool false, .int e] st (.iface T.apiErrno (.int e)) := by
 refine H.q1p.panics q5d rfl rfl ?_
 repeat' (simp -dsimp -implicitDefEqProofs [*])
theorem k5g : [PV.int 0, .int 0, .int 0, .int 0, .int 0, .int 0, .int 0, .int 0, .int 0, .int 0, .int 0, .int 0, .int 0, .int 0] = zeroD.enc := rfl
theorem y01 (d : Decision) : okD [d] ↔ q66 d = true := by
 have := z9x (x := d) z71
 simp only [List.nil_append, j31] at this
 rw [this]
 constructor
 ·exact fun h => h.1
 ·intro h
  have := k5c h
  exact ⟨h, by omega⟩
theorem z1d (d : Decision) : q8b [d] = 0 ↔ q66 d = true := by
 rw [k1l, y01]
 simp
theorem z8e (e : Event) (st : q43) : Rets P F.q26 [.list true e.enc 1] st (.int (q75 [e])) := by
 rw [z7y]
 exact k6b true [e] st
theorem z8f (d : Decision) (st : q43) : Rets P F.q3h [.list true d.enc 1] st (.int (q8b [d])) := by
 have := k81 true [d] st
 have e : Decision.lst true [d] = .list true d.enc 1 := by simp [Decision.lst]
 rwa [e] at this
theorem k1p (n : Note) (st : q43) : Rets P F.q1v [n.pv] st (.bool (q5c n)) := by
 have k1 := k6c n.ev
 have k2 := z1d n.dec
 have c1 := fun st => z8e n.ev st
 have c2 := fun st => z8f n.dec st
 generalize q75 [n.ev] = E1 at *
 generalize q8b [n.dec] = E2 at *
 by_cases h1 : n.kind = 1
 ·have ef : q5c n = (q7m n.ev && decide (n.dec = zeroD)) := by unfold q5c; rw [if_pos h1]
  rw [ef]
  clear ef k2 c2
  by_cases hz : n.dec = zeroD
  ·have e : (q7m n.ev && decide (n.dec = zeroD)) = decide (E1 = 0) := by
    rw [decide_eq_true hz, Bool.and_true, Bool.eq_iff_iff, decide_eq_true_eq]
    exact k1.symm
   rw [e]
   clear e k1
   have hs := n.subDec
   rw [hz] at hs
   refine H.q1v.pure q5d rfl rfl ?_
   repeat' (first 
    | (with_reducible refine Fresh.intro fun b hb => ?_) <;> (try simp -dsimp -implicitDefEqProofs [*] at hb)
    | (with_reducible refine Rets.xcall (c1 _) ?_)
    | (with_reducible refine Lit.imm ?_)
    | (simp -dsimp -implicitDefEqProofs [k5g, *]))
  ·rw [decide_eq_false hz, Bool.and_false]
   clear k1 c1
   refine H.q1v.pure q5d rfl rfl ?_
   repeat' (first 
    | (with_reducible refine Fresh.intro fun b hb => ?_) <;> (try simp -dsimp -implicitDefEqProofs [*] at hb)
    | (simp -dsimp -implicitDefEqProofs [k5g, *]))
 by_cases h2 : n.kind = 2
 ·have ef : q5c n = (q66 n.dec && decide (n.ev = zeroE)) := by unfold q5c; rw [if_neg h1, decide_eq_true h2, Bool.true_and]
  rw [ef]
  clear ef k1 c1
  by_cases hz : n.ev = zeroE
  ·have e : (q66 n.dec && decide (n.ev = zeroE)) = decide (E2 = 0) := by
    rw [decide_eq_true hz, Bool.and_true, Bool.eq_iff_iff, decide_eq_true_eq]
    exact k2.symm
   rw [e]
   clear e k2
   have hs := n.subEv
   rw [hz] at hs
   refine H.q1v.pure q5d rfl rfl ?_
   repeat' (first 
    | (with_reducible refine Fresh.intro fun b hb => ?_) <;> (try simp -dsimp -implicitDefEqProofs [*] at hb)
    | (with_reducible refine Rets.xcall (c2 _) ?_)
    | (with_reducible refine Lit.imm ?_)
    | (simp -dsimp -implicitDefEqProofs [q7l, *]))
  ·rw [decide_eq_false hz, Bool.and_false]
   clear k2 c2
   refine H.q1v.pure q5d rfl rfl ?_
   repeat' (first 
    | (with_reducible refine Fresh.intro fun b hb => ?_) <;> (try simp -dsimp -implicitDefEqProofs [*] at hb)
    | (simp -dsimp -implicitDefEqProofs [q7l, *]))
 ·have ef : q5c n = false := by unfold q5c; rw [if_neg h1, decide_eq_false h2]; rfl
  rw [ef]
  clear ef k1 k2 c1 c2
  refine H.q1v.pure q5d rfl rfl ?_
  repeat' (first 
   | (with_reducible refine Fresh.intro fun b hb => ?_) <;> (try simp -dsimp -implicitDefEqProofs [*] at hb)
   | (simp -dsimp -implicitDefEqProofs [*]))
end Go.Proofs.YtmlmoaimjifpgaaGreat
