/- Encodings by the program: values that are well-formed. -/
import Derived.Test.YtnooplpbpfiapaaGreatDoorS36G
namespace Go.Proofs.YtnooplpbpfiapaaGreatDoor
open Go.Pv Go.Pv.Sha
set_option maxRecDepth 100000
set_option maxHeartbeats 4000000
def FormedN (D : Nat) (st : q37) (e : PEnd) (s : q37) : Prop := ∃ d : Nat, d ≤ D ∧ e = .ret (.tuple [.int (d : Int), .bool true]) ∧ s = st
theorem k3z (n : Nat) (st : q37) : PCalls P F.q09 [.agg (y28 n)] st (FormedN 0 st) := by
 refine H.q09.view q4m rfl rfl ?_
 by_cases hn : n = 0
 ·subst hn
  repeat' (first 
   | (with_reducible refine Fresh.intro fun b hb => ?_) <;> (try simp -dsimp -implicitDefEqProofs [*] at hb)
   | (simp -dsimp -implicitDefEqProofs [*]))
  exact .drop q4p ⟨0, Nat.le_refl _, rfl, rfl⟩
 ·have hn' : ¬ (n : Int) = 0 := by omega
  repeat' (first 
   | (with_reducible refine Fresh.intro fun b hb => ?_) <;> (try simp -dsimp -implicitDefEqProofs [*] at hb)
   | (simp -dsimp -implicitDefEqProofs [*]))
  exact .drop q4p ⟨0, Nat.le_refl _, rfl, rfl⟩
theorem z76 (x : ByteArray) (st : q37) : PCalls P F.q09 [.agg (z75 x)] st (FormedN 0 st) := by
 refine H.q09.view q4m rfl rfl ?_
 by_cases hx : x = ⟨#[]⟩
 ·subst hx
  repeat' (first 
   | (with_reducible refine Fresh.intro fun b hb => ?_) <;> (try simp -dsimp -implicitDefEqProofs [*] at hb)
   | (simp -dsimp -implicitDefEqProofs [*]))
  exact .drop q4p ⟨0, Nat.le_refl _, rfl, rfl⟩
 ·repeat' (first 
   | (with_reducible refine Fresh.intro fun b hb => ?_) <;> (try simp -dsimp -implicitDefEqProofs [*] at hb)
   | (simp -dsimp -implicitDefEqProofs [*]))
  exact .drop q4p ⟨0, Nat.le_refl _, rfl, rfl⟩
theorem k9s (D : Nat) (l : List Wv) (hl0 : 0 < l.length) (hl : l.length ≤ 100) (hD : D ≤ 10) (st : q37) (hf : ∀ v ∈ l, ∀ st, PCalls P F.q09 [.agg v.row] st (FormedN D st)) : PCalls P F.q09 [.agg (k7k (l.flatMap Wv.row) l.length)] st (FormedN (D + 1) st) := by
 refine H.q09.view q4m rfl rfl ?_
 have h0' : ¬ (l.length : Int) = 0 := by omega
 repeat' (first 
  | (with_reducible refine Fresh.intro fun b hb => ?_) <;> (try simp -dsimp -implicitDefEqProofs [*] at hb)
  | (simp -dsimp -implicitDefEqProofs [*]))
 refine q4e (fun y : Nat × Nat => [(2, .int (y.2 : Nat)), (55, .list false (l.flatMap Wv.row) l.length), (56, .int l.length), (57, .int (y.1 : Nat))]) (fun _ => st) (fun y => y.1 ≤ l.length ∧ y.2 ≤ D) (fun y => l.length - y.1) (0, 0) ⟨by omega, by omega⟩ (by simp) q4p ?_
 rintro ⟨i, d⟩ ⟨hi, hd⟩
 simp only at hi hd
 by_cases hil : i < l.length
 ·have hv := hf l[i] (List.getElem_mem hil)
  have hs := k0i (enc := Wv.row) (k := 4) (fun _ => rfl) l i hil
  have hfl := q5m (enc := Wv.row) (k := 4) (fun _ => rfl) l
  have hwi := q4d (n := i) (by omega)
  generalize l[i] = v at *
  generalize hrows : l.flatMap Wv.row = rows at *
  repeat' (first 
   | (with_reducible refine Fresh.intro fun b hb => ?_) <;> (try simp -dsimp -implicitDefEqProofs [*] at hb)
   | (simp -dsimp -implicitDefEqProofs [*]))
  refine q4w (hv _) ?_
  rintro e s2 ⟨d2, hd2, rfl, rfl⟩
  rw [q6t]
  clear hv
  by_cases hdd : d < d2
  ·repeat' (simp -dsimp -implicitDefEqProofs [*])
   exact Next.intro (i + 1, d2) ⟨by simp only; omega, hd2⟩ (by simp only; omega) (by simp) q4p
  ·repeat' (simp -dsimp -implicitDefEqProofs [*])
   exact Next.intro (i + 1, d) ⟨by simp only; omega, hd⟩ (by simp only; omega) (by simp) q4p
 ·have e : i = l.length := by omega
  subst e
  have hwd := q4d (n := d) (by omega)
  repeat' (simp -dsimp -implicitDefEqProofs [*])
  exact .same ⟨d + 1, by omega, by simp, rfl⟩
open Go.Pv Go.Pv.Sha
set_option maxRecDepth 100000
set_option maxHeartbeats 4000000
theorem k7l (c0 c1 c2 c3 : PV) (D : Nat) (hD : D ≤ 16) (st : q37) (hf : ∀ st, PCalls P F.q09 [.agg [c0, c1, c2, c3]] st (FormedN D st)) : Rets P F.q3s [.agg [c0, c1, c2, c3]] st (.int 0) := by
 refine H.q3s.pure q4m rfl rfl ?_
 repeat' (first 
  | (with_reducible refine Fresh.intro fun b hb => ?_) <;> (try simp -dsimp -implicitDefEqProofs [*] at hb)
  | (simp -dsimp -implicitDefEqProofs [*]))
 refine q4w (hf _) ?_
 rintro e s ⟨d, hd, rfl, rfl⟩
 rw [q6t]
 clear hf
 have h16 : ¬ (16 : Int) < d := by omega
 repeat' (simp -dsimp -implicitDefEqProofs [*])
theorem Frozen.mono {I I' : Imm} {b : Nat} {o : PObj} (h : Frozen I b o) (hle : I.le I') : Frozen I' b o := by
 obtain ⟨r, h1, h2⟩ := h
 exact ⟨r, hle _ _ h1, q9v hle h2⟩
theorem Sees.freeze2 {b c : Nat} {o x : PObj} {p q : PV} {st : q37} (hn : q5p ((c, x) :: st) b) (hm : q5p st c) (hf : ∀ I, Frozen I b o → Frozen I c x → ∀ v, vrep I p v → vrep I q v) : Sees p ((b, o) :: (c, x) :: st) q st := ⟨fun I w v h1 h2 => by
 obtain ⟨I1, h3, h4, h5⟩ := h1.freeze hn
 obtain ⟨I2, h6, h7, h8⟩ := h4.freeze hm
 exact ⟨I2, Imm.le_trans h3 h6, h7, hf I2 (Frozen.mono h5 h6) h8 v (q5t h6 _ _ (q5t h3 _ _ h2))⟩⟩
theorem Frz.wtab {b : Nat} {o : PObj} {c d : PV} (h : Frz b o c d) : Frzs b o (wtab c) (wtab d) :=
 .cons (.refl _) (.cons (.refl _) (.cons (.refl _) (.cons (.func _ .nil (.cons h .nil)) .nil)))
theorem k8o (st : q37) : PCalls P F.q29 [] st (fun e s => ∃ c, e = .ret (.iptr (wtab (z4w (wtab (z4w (wtab c))))) 0) ∧ s = st) := by
 refine H.q29.view q4m rfl rfl ?_
 repeat' (first 
  | (with_reducible refine Fresh.intro fun b hb => ?_) <;> (try simp -dsimp -implicitDefEqProofs [*] at hb)
  | (simp -dsimp -implicitDefEqProofs [*]))
 revert b
 intro w hw
 revert b
 intro p hp hw
 have e1 : Frz p (.arr T.q36 (wtab (.ptr w 0))) (.ptr p 0) (.iptr (wtab (.ptr w 0)) 0) := .ptr _ _ 0 rfl
 have e2 : Frz w (.arr T.codecwriter [.ptr p 0]) (.ptr w 0) (.iptr [.ptr p 0] 0) := .ptr _ _ 0 rfl
 refine .sees (Sees.freeze2 (q := .iptr (wtab (z4w (wtab (z4w (wtab (.ptr w 0)))))) 0) hw hp fun I fw fp v h0 => ?_) (.same ⟨⟨_, rfl⟩, rfl⟩)
 have h1 := Frz.vrep fp e1 h0
 have h2 := Frz.vrep fw (.iptr 0 (Frz.wtab e2)) h1
 have h3 := Frz.vrep fp (.iptr 0 (Frz.wtab (.iptr 0 (.cons e1 .nil)))) h2
 have h4 := Frz.vrep fw (.iptr 0 (Frz.wtab (.iptr 0 (.cons (.iptr 0 (Frz.wtab e2)) .nil)))) h3
 exact Frz.vrep fp (.iptr 0 (Frz.wtab (.iptr 0 (.cons (.iptr 0 (Frz.wtab (.iptr 0 (.cons e1 .nil)))) .nil)))) h4
theorem z4x (l : List Wv) (hl0 : 0 < l.length) (hl : l.length ≤ 100) (D : Nat) (hD : D ≤ 10) (hok : ∀ c, ∀ v ∈ l, v.Ok 210000 (wtab (z4w (wtab c)))) (hf : ∀ v ∈ l, ∀ st, PCalls P F.q09 [.agg v.row] st (FormedN D st)) (st : q37) :
  Rets P F.q3j [.agg (k7k (l.flatMap Wv.row) l.length)] st (.tuple [q5b false (3#8 :: (k0w l.length ++ l.flatMap Wv.B)), .int 0]) := by
 refine H.q3j.view q4m rfl rfl ?_
 have hc := fun st => k7l (.int 3) (.int 0) k53 (.list false (l.flatMap Wv.row) l.length) (D + 1) (by omega) st (fun st => k9s D l hl0 hl hD st hf)
 repeat' (first 
  | (with_reducible refine Fresh.intro fun b hb => ?_) <;> (try simp -dsimp -implicitDefEqProofs [*] at hb)
  | (with_reducible refine Rets.xcall (hc _) ?_)
  | (simp -dsimp -implicitDefEqProofs [-q39, *]))
 clear hc
 refine DrawLate.by (Cls ((b, .arr T.apiValue (k7k (l.flatMap Wv.row) l.length)) :: st) []) (Cls.self _ _) ?_
 repeat' (simp -dsimp -implicitDefEqProofs [-q39, *])
 refine q4w (k8o _) ?_
 rintro e s2 ⟨c, rfl, rfl⟩
 rw [q6t]
 refine ⟨Cls.self _ _, ?_⟩
 have hok' := hok c
 clear hok
 have htab : (wtab (z4w (wtab (z4w (wtab c)))))[3]? = some (.func (.func F.q2i) [] [z4w (wtab (z4w (wtab c)))]) := rfl
 have kok : Hid (∀ v ∈ l, v.Ok 210000 (wtab (z4w (wtab c)))) := ⟨hok'⟩
 clear hok'
 generalize wtab (z4w (wtab c)) = tab at *
 generalize wtab (z4w tab) = tab3 at *
 repeat' (simp -dsimp -implicitDefEqProofs [-q39, *])
 have hB := k3y l fun v hv => (kok.out v hv).B
 have hn := q7h (n := l.length) (by omega)
 refine q4w (k2d 0 (by omega) tab l hl (fun v hv => by simpa using kok.out v hv) none ((b, .arr T.apiValue (k7k (l.flatMap Wv.row) l.length)) :: st) trivial (by simp)) ?_
 rintro e s2 ⟨o, ho, hol, rfl, rfl⟩
 rw [q6t]
 simp only [k1f, List.nil_append] at hol
 refine ⟨q9p ho (Cls.self _ _), ?_⟩
 have kl : Hid (q5c o = 3#8 :: (k0w l.length ++ l.flatMap Wv.B)) := ⟨hol⟩
 clear hol kok htab hf
 repeat' (simp -dsimp -implicitDefEqProofs [-q39, *])
 exact RetView.accP2 (row := q38) rfl ho (.drop q4p ⟨by rw [kl.out], rfl⟩)
open Go.Pv Go.Pv.Sha
set_option maxRecDepth 100000
set_option maxHeartbeats 4000000
open Go.Pv Go.Pv.Sha
set_option maxRecDepth 100000
set_option maxHeartbeats 4000000
open Go.Pv Go.Pv.Sha
set_option maxRecDepth 100000
set_option maxHeartbeats 4000000
def k5t (n : Nat) : Wv := ⟨1, .int (n : Int), k53, .nil, 1#8 :: k0w (2 * n)⟩
def z77 (x : ByteArray) : Wv := ⟨2, .int 0, .str x, .nil, 2#8 :: (k0w x.size ++ q9r x)⟩
def z78 (l : List Wv) : Wv := ⟨3, .int 0, k53, .list false (l.flatMap Wv.row) l.length, 3#8 :: (k0w l.length ++ l.flatMap Wv.B)⟩
abbrev BIG : Nat := 1000000000000
theorem k30 (n : Nat) (hn : n < BIG) : (k5t n).B.length ≤ 11 := by
 have := q7h (n := 2 * n) (by unfold BIG at hn; omega)
 show (1#8 :: k0w (2 * n)).length ≤ 11
 rw [List.length_cons]; omega
theorem z1a (M n : Nat) (hM : M ≤ 1000000) (hn : n < BIG) (c : PV) : (k5t n).Ok M (wtab c) := ⟨(by decide : 1 < 4), by have := k30 n hn; omega, _, _, rfl, fun o st ho hol => z09 n hn o st ho (by omega)⟩
theorem z6t (M : Nat) (hM : M ≤ 1000000) (x : ByteArray) (hx : x.size ≤ 1000) (c : PV) : (z77 x).Ok M (wtab c) := ⟨(by decide : 2 < 4), by
 have := q7h (n := x.size) (by omega)
 show (2#8 :: (k0w x.size ++ q9r x)).length ≤ 2000
 rw [List.length_cons, List.length_append, k3x]; omega, _, _, rfl, fun o st ho hol => k8n x hx o st ho (by omega)⟩
theorem ints_flat (l : List Nat) (hl : ∀ n ∈ l, n < BIG) : ((l.map k5t).flatMap Wv.B).length ≤ l.length * 11 := by
 induction l with
 | nil => simp
 | cons n l ih =>
  have h1 := ih fun m hm => hl m (List.mem_cons_of_mem _ hm)
  have h2 := k30 n (hl n List.mem_cons_self)
  simp only [List.map_cons, List.flatMap_cons, List.length_append, List.length_cons]
  omega
abbrev k31 (l : List Nat) : Wv := z78 (l.map k5t)
theorem k7m (l : List Nat) (h100 : l.length ≤ 100) (hl : ∀ n ∈ l, n < BIG) : (k31 l).B.length ≤ 2000 := by
 have h1 := ints_flat l hl
 have h2 := q7h (n := l.length) (by omega)
 show (3#8 :: (k0w (l.map k5t).length ++ (l.map k5t).flatMap Wv.B)).length ≤ 2000
 rw [List.length_map, List.length_cons, List.length_append]
 omega
theorem z6u (M : Nat) (hM : M ≤ 500000) (l : List Nat) (h100 : l.length ≤ 100) (hl : ∀ n ∈ l, n < BIG) (c : PV) : (k31 l).Ok M (wtab (z4w (wtab c))) :=
 ⟨(by decide : 3 < 4), k7m l h100 hl, _, _, rfl, fun o st ho hol => k2d M hM (wtab c) (l.map k5t) (by simpa using h100) (fun v hv => by
  obtain ⟨n, hn, rfl⟩ := List.mem_map.1 hv
  exact z1a _ n (by omega) (hl n hn) c) o st ho hol⟩
def parts (r e j : Nat) (m k : List Nat) (x : ByteArray) : List Wv := [k5t r, k5t e, k5t j, k31 m, k31 k, z77 x]
def k78 (r e j : Nat) (m k : List Nat) (x : ByteArray) : List (BitVec 8) := (z78 (parts r e j m k x)).B
structure Fit (r e j : Nat) (m k : List Nat) (x : ByteArray) : Prop where
 hr : r < BIG
 he : e < BIG
 hj : j < BIG
 hm : ∀ n ∈ m, n < BIG
 hk : ∀ n ∈ k, n < BIG
 m0 : 0 < m.length
 k0 : 0 < k.length
 m1 : m.length ≤ 100
 k1 : k.length ≤ 100
 hx : x.size ≤ 1000
theorem k7n {r e j : Nat} {m k : List Nat} {x : ByteArray} {Q : Wv → Prop} (h1 : Q (k5t r)) (h2 : Q (k5t e)) (h3 : Q (k5t j)) (h4 : Q (k31 m)) (h5 : Q (k31 k)) (h6 : Q (z77 x)) : ∀ v ∈ parts r e j m k x, Q v := by
 intro v hv
 simp only [parts, List.mem_cons, List.not_mem_nil, or_false] at hv
 rcases hv with rfl | rfl | rfl | rfl | rfl | rfl <;> assumption
theorem j1c (l : List Nat) (h0 : 0 < l.length) (h1 : l.length ≤ 100) (st : q37) : PCalls P F.q09 [.agg (k31 l).row] st (FormedN 1 st) :=
 k9s 0 (l.map k5t) (by simpa using h0) (by simpa using h1) (by omega) st fun v hv st => by
  obtain ⟨n, hn, rfl⟩ := List.mem_map.1 hv
  exact k3z n st
theorem FormedN.le {D E : Nat} (h : D ≤ E) {f : FuncId} {a : List PV} {st : q37} (k : PCalls P f a st (FormedN D st)) : PCalls P f a st (FormedN E st) := k.mono fun _ _ ⟨d, h1, h2, h3⟩ => ⟨d, by omega, h2, h3⟩
theorem j8a {r e j : Nat} {m k : List Nat} {x : ByteArray} (h : Fit r e j m k x) (st : q37) : Rets P F.q3j [.agg (z78 (parts r e j m k x)).row] st (.tuple [q5b false (k78 r e j m k x), .int 0]) :=
 z4x (parts r e j m k x) (by simp [parts]) (by simp [parts]) 1 (by omega)
  (fun c => k7n (z1a _ _ (by omega) h.hr _) (z1a _ _ (by omega) h.he _) (z1a _ _ (by omega) h.hj _) (z6u _ (by omega) m h.m1 h.hm c) (z6u _ (by omega) k h.k1 h.hk c) (z6t _ (by omega) x h.hx _))
  (fun v hv => (k7n (Q := fun v => ∀ st, PCalls P F.q09 [.agg v.row] st (FormedN 1 st)) (fun st => FormedN.le (by omega) (k3z r st)) (fun st => FormedN.le (by omega) (k3z e st)) (fun st => FormedN.le (by omega) (k3z j st)) (j1c m h.m0 h.m1) (j1c k h.k0 h.k1) (fun st => FormedN.le (by omega) (z76 x st))) v hv) st
end Go.Proofs.YtnooplpbpfiapaaGreatDoor
