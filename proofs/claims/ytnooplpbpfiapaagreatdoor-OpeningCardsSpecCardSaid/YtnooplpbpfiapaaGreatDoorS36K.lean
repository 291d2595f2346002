/- Encodings by the program: values that are well-formed. -/
import Derived.Test.YtnooplpbpfiapaaGreatDoorS36G
namespace Go.Proofs.YtnooplpbpfiapaaGreatDoor
open Go.Pv Go.Pv.Sha
set_option maxRecDepth 100000
set_option maxHeartbeats 4000000
def FormedN (D : Nat) (st : q5d) (e : PEnd) (s : q5d) : Prop := ∃ d : Nat, d ≤ D ∧ e = .ret (.tuple [.int (d : Int), .bool true]) ∧ s = st
theorem k55 (n : Nat) (st : q5d) : PCalls P F.q1e [.agg (j8j n)] st (FormedN 0 st) := by
 refine H.q1e.view q5n rfl rfl ?_
 by_cases hn : n = 0
 ·subst hn
  repeat' (first 
   | (with_reducible refine Fresh.intro fun b hb => ?_) <;> (try simp -dsimp -implicitDefEqProofs [*] at hb)
   | (simp -dsimp -implicitDefEqProofs [*]))
  exact .drop q5q ⟨0, Nat.le_refl _, rfl, rfl⟩
 ·have hn' : ¬ (n : Int) = 0 := by omega
  repeat' (first 
   | (with_reducible refine Fresh.intro fun b hb => ?_) <;> (try simp -dsimp -implicitDefEqProofs [*] at hb)
   | (simp -dsimp -implicitDefEqProofs [*]))
  exact .drop q5q ⟨0, Nat.le_refl _, rfl, rfl⟩
theorem j0g (x : ByteArray) (st : q5d) : PCalls P F.q1e [.agg (z3f x)] st (FormedN 0 st) := by
 refine H.q1e.view q5n rfl rfl ?_
 by_cases hx : x = ⟨#[]⟩
 ·subst hx
  repeat' (first 
   | (with_reducible refine Fresh.intro fun b hb => ?_) <;> (try simp -dsimp -implicitDefEqProofs [*] at hb)
   | (simp -dsimp -implicitDefEqProofs [*]))
  exact .drop q5q ⟨0, Nat.le_refl _, rfl, rfl⟩
 ·repeat' (first 
   | (with_reducible refine Fresh.intro fun b hb => ?_) <;> (try simp -dsimp -implicitDefEqProofs [*] at hb)
   | (simp -dsimp -implicitDefEqProofs [*]))
  exact .drop q5q ⟨0, Nat.le_refl _, rfl, rfl⟩
theorem z1w (D : Nat) (l : List Wv) (hl0 : 0 < l.length) (hl : l.length ≤ 100) (hD : D ≤ 10) (st : q5d) (hf : ∀ v ∈ l, ∀ st, PCalls P F.q1e [.agg v.row] st (FormedN D st)) : PCalls P F.q1e [.agg (k00 (l.flatMap Wv.row) l.length)] st (FormedN (D + 1) st) := by
 refine H.q1e.view q5n rfl rfl ?_
 have h0' : ¬ (l.length : Int) = 0 := by omega
 repeat' (first 
  | (with_reducible refine Fresh.intro fun b hb => ?_) <;> (try simp -dsimp -implicitDefEqProofs [*] at hb)
  | (simp -dsimp -implicitDefEqProofs [*]))
 refine q5g (fun y : Nat × Nat => [(2, .int (y.2 : Nat)), (55, .list false (l.flatMap Wv.row) l.length), (56, .int l.length), (57, .int (y.1 : Nat))]) (fun _ => st) (fun y => y.1 ≤ l.length ∧ y.2 ≤ D) (fun y => l.length - y.1) (0, 0) ⟨by omega, by omega⟩ (by simp) q5q ?_
 rintro ⟨i, d⟩ ⟨hi, hd⟩
 simp only at hi hd
 by_cases hil : i < l.length
 ·have hv := hf l[i] (List.getElem_mem hil)
  have hs := k0i (enc := Wv.row) (k := 4) (fun _ => rfl) l i hil
  have hfl := q6h (enc := Wv.row) (k := 4) (fun _ => rfl) l
  have hwi := q5h (n := i) (by omega)
  generalize l[i] = v at *
  generalize hrows : l.flatMap Wv.row = rows at *
  repeat' (first 
   | (with_reducible refine Fresh.intro fun b hb => ?_) <;> (try simp -dsimp -implicitDefEqProofs [*] at hb)
   | (simp -dsimp -implicitDefEqProofs [*]))
  refine q50 (hv _) ?_
  rintro e s2 ⟨d2, hd2, rfl, rfl⟩
  rw [q7m]
  clear hv
  by_cases hdd : d < d2
  ·repeat' (simp -dsimp -implicitDefEqProofs [*])
   exact Next.intro (i + 1, d2) ⟨by simp only; omega, hd2⟩ (by simp only; omega) (by simp) q5q
  ·repeat' (simp -dsimp -implicitDefEqProofs [*])
   exact Next.intro (i + 1, d) ⟨by simp only; omega, hd⟩ (by simp only; omega) (by simp) q5q
 ·have e : i = l.length := by omega
  subst e
  have hwd := q5h (n := d) (by omega)
  repeat' (simp -dsimp -implicitDefEqProofs [*])
  exact .same ⟨d + 1, by omega, by simp, rfl⟩
open Go.Pv Go.Pv.Sha
set_option maxRecDepth 100000
set_option maxHeartbeats 4000000
theorem k9q (c0 c1 c2 c3 : PV) (D : Nat) (hD : D ≤ 16) (st : q5d) (hf : ∀ st, PCalls P F.q1e [.agg [c0, c1, c2, c3]] st (FormedN D st)) : Rets P F.q4z [.agg [c0, c1, c2, c3]] st (.int 0) := by
 refine H.q4z.pure q5n rfl rfl ?_
 repeat' (first 
  | (with_reducible refine Fresh.intro fun b hb => ?_) <;> (try simp -dsimp -implicitDefEqProofs [*] at hb)
  | (simp -dsimp -implicitDefEqProofs [*]))
 refine q50 (hf _) ?_
 rintro e s ⟨d, hd, rfl, rfl⟩
 rw [q7m]
 clear hf
 have h16 : ¬ (16 : Int) < d := by omega
 repeat' (simp -dsimp -implicitDefEqProofs [*])
theorem Frozen.mono {I I' : Imm} {b : Nat} {o : PObj} (h : Frozen I b o) (hle : I.le I') : Frozen I' b o := by
 obtain ⟨r, h1, h2⟩ := h
 exact ⟨r, hle _ _ h1, k1s hle h2⟩
theorem Sees.freeze2 {b c : Nat} {o x : PObj} {p q : PV} {st : q5d} (hn : q6u ((c, x) :: st) b) (hm : q6u st c) (hf : ∀ I, Frozen I b o → Frozen I c x → ∀ v, vrep I p v → vrep I q v) : Sees p ((b, o) :: (c, x) :: st) q st := ⟨fun I w v h1 h2 => by
 obtain ⟨I1, h3, h4, h5⟩ := h1.freeze hn
 obtain ⟨I2, h6, h7, h8⟩ := h4.freeze hm
 exact ⟨I2, Imm.le_trans h3 h6, h7, hf I2 (Frozen.mono h5 h6) h8 v (q7f h6 _ _ (q7f h3 _ _ h2))⟩⟩
theorem Frz.wtab {b : Nat} {o : PObj} {c d : PV} (h : Frz b o c d) : Frzs b o (wtab c) (wtab d) :=
 .cons (.refl _) (.cons (.refl _) (.cons (.refl _) (.cons (.func _ .nil (.cons h .nil)) .nil)))
theorem z0r (st : q5d) : PCalls P F.q4f [] st (fun e s => ∃ c, e = .ret (.iptr (wtab (z5y (wtab (z5y (wtab c))))) 0) ∧ s = st) := by
 refine H.q4f.view q5n rfl rfl ?_
 repeat' (first 
  | (with_reducible refine Fresh.intro fun b hb => ?_) <;> (try simp -dsimp -implicitDefEqProofs [*] at hb)
  | (simp -dsimp -implicitDefEqProofs [*]))
 revert b
 intro w hw
 revert b
 intro p hp hw
 have e1 : Frz p (.arr T.q5c (wtab (.ptr w 0))) (.ptr p 0) (.iptr (wtab (.ptr w 0)) 0) := .ptr _ _ 0 rfl
 have e2 : Frz w (.arr T.codecwriter [.ptr p 0]) (.ptr w 0) (.iptr [.ptr p 0] 0) := .ptr _ _ 0 rfl
 refine .sees (Sees.freeze2 (q := .iptr (wtab (z5y (wtab (z5y (wtab (.ptr w 0)))))) 0) hw hp fun I fw fp v h0 => ?_) (.same ⟨⟨_, rfl⟩, rfl⟩)
 have h1 := Frz.vrep fp e1 h0
 have h2 := Frz.vrep fw (.iptr 0 (Frz.wtab e2)) h1
 have h3 := Frz.vrep fp (.iptr 0 (Frz.wtab (.iptr 0 (.cons e1 .nil)))) h2
 have h4 := Frz.vrep fw (.iptr 0 (Frz.wtab (.iptr 0 (.cons (.iptr 0 (Frz.wtab e2)) .nil)))) h3
 exact Frz.vrep fp (.iptr 0 (Frz.wtab (.iptr 0 (.cons (.iptr 0 (Frz.wtab (.iptr 0 (.cons e1 .nil)))) .nil)))) h4
theorem z66 (l : List Wv) (hl0 : 0 < l.length) (hl : l.length ≤ 100) (D : Nat) (hD : D ≤ 10) (hok : ∀ c, ∀ v ∈ l, v.Ok 210000 (wtab (z5y (wtab c)))) (hf : ∀ v ∈ l, ∀ st, PCalls P F.q1e [.agg v.row] st (FormedN D st)) (st : q5d) :
  Rets P F.q4q [.agg (k00 (l.flatMap Wv.row) l.length)] st (.tuple [q5s false (3#8 :: (k0z l.length ++ l.flatMap Wv.B)), .int 0]) := by
 refine H.q4q.view q5n rfl rfl ?_
 have hc := fun st => k9q (.int 3) (.int 0) q7u (.list false (l.flatMap Wv.row) l.length) (D + 1) (by omega) st (fun st => z1w D l hl0 hl hD st hf)
 repeat' (first 
  | (with_reducible refine Fresh.intro fun b hb => ?_) <;> (try simp -dsimp -implicitDefEqProofs [*] at hb)
  | (with_reducible refine Rets.xcall (hc _) ?_)
  | (simp -dsimp -implicitDefEqProofs [-q5f, *]))
 clear hc
 refine DrawLate.by (Cls ((b, .arr T.apiValue (k00 (l.flatMap Wv.row) l.length)) :: st) []) (Cls.self _ _) ?_
 repeat' (simp -dsimp -implicitDefEqProofs [-q5f, *])
 refine q50 (z0r _) ?_
 rintro e s2 ⟨c, rfl, rfl⟩
 rw [q7m]
 refine ⟨Cls.self _ _, ?_⟩
 have hok' := hok c
 clear hok
 have htab : (wtab (z5y (wtab (z5y (wtab c)))))[3]? = some (.func (.func F.q2t) [] [z5y (wtab (z5y (wtab c)))]) := rfl
 have kok : Hid (∀ v ∈ l, v.Ok 210000 (wtab (z5y (wtab c)))) := ⟨hok'⟩
 clear hok'
 generalize wtab (z5y (wtab c)) = tab at *
 generalize wtab (z5y tab) = tab3 at *
 repeat' (simp -dsimp -implicitDefEqProofs [-q5f, *])
 have hB := k12 l fun v hv => (kok.out v hv).B
 have hn := q62 (n := l.length) (by omega)
 refine q50 (k4j 0 (by omega) tab l hl (fun v hv => by simpa using kok.out v hv) none ((b, .arr T.apiValue (k00 (l.flatMap Wv.row) l.length)) :: st) trivial (by simp)) ?_
 rintro e s2 ⟨o, ho, hol, rfl, rfl⟩
 rw [q7m]
 simp only [q92, List.nil_append] at hol
 refine ⟨q9m ho (Cls.self _ _), ?_⟩
 have kl : Hid (q5y o = 3#8 :: (k0z l.length ++ l.flatMap Wv.B)) := ⟨hol⟩
 clear hol kok htab hf
 repeat' (simp -dsimp -implicitDefEqProofs [-q5f, *])
 exact RetView.accP2 (row := q5e) rfl ho (.drop q5q ⟨by rw [kl.out], rfl⟩)
open Go.Pv Go.Pv.Sha
set_option maxRecDepth 100000
set_option maxHeartbeats 4000000
theorem k2l {α : Type} {row : List α → List PV} {k : Nat} (hrl : ∀ l, (row l).length = l.length * k) (hra : ∀ l m, row (l ++ m) = row l ++ row m) {T : TypeId} {bytes : Nat} {st : q5d} {K : PV → q5d → Prop}
  (ys xs : List α) {new : List PV} {m n : Nat} (hn : ys.length = n) (hnew : row xs = new) (hm : xs.length = m) (hm0 : 0 < m) (hsz : (n + m) * bytes ≤ 140737488355328)
  (h : ∀ o' : Option (Acc α), accOk row k st o' → q5y o' = ys ++ xs → K (k1p o') (q6o T st o')) : q6p T bytes k (.list true (row ys) n) new m st K := by
 have h1 : q6p T bytes k .nil (row ys ++ new) (n + m) st K := q8a hrl (ys ++ xs) (by rw [hra, hnew]) (by rw [List.length_append, hn, hm]) (by omega) (by simpa using hsz) fun a' ha' hl' hb' => h (some a') ⟨ha', hb'⟩ (by simpa using hl')
 rw [k4y] at h1
 rw [q5f]
 exact ⟨fun h => absurd h (by omega), fun _ => ⟨rfl, by rw [hrl, hn], h1.2 (by omega)⟩⟩
theorem k8i (n : Nat) : 0 < (k0z n).length := by
 by_cases h : n < 128
 ·rw [k9p h]; simp
 ·rw [z3d h]; simp
theorem k62 (u : Nat) : u < 18446744073709551616 → ∀ st, Rets P F.q1l [.val (.int .u64 (u : Int))] st (q5s false (k0z u)) := by
 induction u using Nat.strongRecOn with
 | ind u ih =>
  intro hu st
  refine H.q1l.view q5n rfl rfl ?_
  have hb := k54 u
  by_cases h128 : u < 128
  ·have h : (u : Int) < 128 := by omega
   rw [k9p h128]
   generalize BitVec.ofNat 8 u = x at *
   repeat' (first 
    | (with_reducible refine Lit.imm ?_)
    | (simp -dsimp -implicitDefEqProofs [*]))
   exact .loose1 (.same ⟨rfl, rfl⟩)
  ·have h : ¬ (u : Int) < 128 := by omega
   have ih' := fun st => ih (u / 128) (by omega) (by omega) st
   clear ih hb
   obtain ⟨v, hv⟩ : ∃ v, u / 128 = v := ⟨_, rfl⟩
   obtain ⟨r, hr⟩ : ∃ r, u % 128 = r := ⟨_, rfl⟩
   have hr1 : (u : Int) % 128 = r := by omega
   have hr2 : (u : Int).tmod 128 = r := by rw [Int.tmod_eq_emod_of_nonneg (by omega)]; omega
   have hv1 : (u : Int) / 128 = v := by omega
   have w1 : IntKind.u64.wrap (v : Int) = v := q70 (by omega) (by omega)
   have w2 : IntKind.u64.wrap ((r : Int) + 128) = (r : Int) + 128 := q70 (by omega) (by omega)
   have w3 : IntKind.u64.wrap (r : Int) = r := q70 (by omega) (by omega)
   have hb : PV.val (.int .u8 (IntKind.u8.wrap ((r : Int) + 128))) = bv (BitVec.ofNat 8 (r + 128)) := k54 (r + 128)
   rw [z3d h128, hr, hv]
   rw [hv] at ih'
   have hnl := q62 (n := v) (by omega)
   have hnp := k8i v
   clear hv hr
   generalize BitVec.ofNat 8 (r + 128) = x at *
   generalize k0z v = E at *
   repeat' (first 
    | (with_reducible refine Rets.xcall (ih' _) ?_)
    | (with_reducible refine Lit.imm ?_)
    | (simp -dsimp -implicitDefEqProofs [-q5f, *]))
   refine k2l (bytes := 1) (n := 1) q5z q5l [x] E rfl rfl rfl hnp (by omega) fun o ho hol => ?_
   have kl : Hid (q5y o = x :: E) := ⟨hol⟩
   clear hol
   repeat' (simp -dsimp -implicitDefEqProofs [-q5f, *])
   exact RetView.accP1 rfl ho (.same ⟨by rw [kl.out], rfl⟩)
theorem z67 (n : Nat) (hn : n < 1000000000000) (st : q5d) : Rets P F.q28 [.int (n : Int)] st (.val (.int .u64 ((2 * n : Nat) : Int))) := by
 refine H.q28.pure q5n rfl rfl ?_
 have h1 : IntKind.u64.wrap (n : Int) = n := q70 (by omega) (by omega)
 have h2 : IntKind.u64.wrap (2 * (n : Int)) = 2 * (n : Int) := q70 (by omega) (by omega)
 repeat' (simp -dsimp -implicitDefEqProofs [*])
theorem k56 (n : Nat) (hn : n < 1000000000000) (st : q5d) : Rets P F.q0k [.agg (j8j n)] st (q5s false (1#8 :: k0z (2 * n))) := by
 refine H.q0k.view q5n rfl rfl ?_
 have hu := fun st => z67 n hn st
 have hm := fun st => k62 (2 * n) (by omega) st
 have hnl := q62 (n := 2 * n) (by omega)
 have hnp := k8i (2 * n)
 have e : ((2 * n : Nat) : Int) = 2 * (n : Int) := by omega
 rw [e] at hu hm
 generalize k0z (2 * n) = E at *
 repeat' (first 
  | (with_reducible refine Fresh.intro fun b hb => ?_) <;> (try simp -dsimp -implicitDefEqProofs [*] at hb)
  | (with_reducible refine Rets.xcall (hu _) ?_)
  | (with_reducible refine Rets.xcall (hm _) ?_)
  | (with_reducible refine Lit.imm ?_)
  | (simp -dsimp -implicitDefEqProofs [-q5f, *]))
 refine k2l (bytes := 1) (n := 1) q5z q5l [1#8] E rfl rfl rfl hnp (by omega) fun o ho hol => ?_
 have kl : Hid (q5y o = 1#8 :: E) := ⟨hol⟩
 clear hol
 repeat' (simp -dsimp -implicitDefEqProofs [-q5f, *])
 exact RetView.accP1 rfl ho (.drop q5q ⟨by rw [kl.out], rfl⟩)
theorem j0h (x : ByteArray) (hx : x.size ≤ 1000) (st : q5d) : Rets P F.q0k [.agg (z3f x)] st (q5s false (2#8 :: (k0z x.size ++ q8m x))) := by
 refine H.q0k.view q5n rfl rfl ?_
 have hm := fun st => k62 x.size (by omega) st
 have hsz : IntKind.u64.wrap (x.size : Int) = (x.size : Int) := q70 (by omega) (by omega)
 have hnl := q62 (n := x.size) (by omega)
 have hnp := k8i x.size
 generalize k0z x.size = E at *
 repeat' (first 
  | (with_reducible refine Fresh.intro fun b hb => ?_) <;> (try simp -dsimp -implicitDefEqProofs [*] at hb)
  | (with_reducible refine Rets.xcall (hm _) ?_)
  | (with_reducible refine DrawLate.intro [] ?_)
  | (simp -dsimp -implicitDefEqProofs [-q5f, *]))
 refine k2l (bytes := 1) (n := 1) q5z q5l [2#8] E rfl rfl rfl hnp (by omega) fun o ho hol => ?_
 have kl : Hid (q5y o = 2#8 :: E) := ⟨hol⟩
 clear hol
 refine ⟨q9m ho (Cls.self _ _), ?_⟩
 repeat' (simp -dsimp -implicitDefEqProofs [-q5f, *])
 refine q6t q5z q5l o ho (q8m x) (k2h x).symm (k1f x) (by rw [kl.out]; simp; omega) fun o3 ho3 hl3 => ?_
 have kl3 : Hid (q5y o3 = 2#8 :: (E ++ q8m x)) := ⟨by rw [hl3, kl.out]; simp⟩
 clear hl3 kl
 refine ⟨q9m ho3 (Cls.self _ _), ?_⟩
 repeat' (simp -dsimp -implicitDefEqProofs [-q5f, *])
 exact RetView.accP1 rfl ho3 (.drop q5q ⟨by rw [kl3.out], rfl⟩)
theorem z1x (l : List Wv) (hl : l.length ≤ 100) (hB : ∀ v ∈ l, v.B.length ≤ 2000) (hok : ∀ v ∈ l, ∀ st, Rets P F.q0k [.agg v.row] st (q5s false v.B)) (st : q5d) : Rets P F.q0k [.agg (k00 (l.flatMap Wv.row) l.length)] st (q5s false (3#8 :: (k0z l.length ++ l.flatMap Wv.B))) := by
 refine H.q0k.view q5n rfl rfl ?_
 have hm := fun st => k62 l.length (by omega) st
 have hsz : IntKind.u64.wrap (l.length : Int) = (l.length : Int) := q70 (by omega) (by omega)
 have hnl := q62 (n := l.length) (by omega)
 have hnp := k8i l.length
 generalize k0z l.length = E at *
 repeat' (first 
  | (with_reducible refine Fresh.intro fun b hb => ?_) <;> (try simp -dsimp -implicitDefEqProofs [*] at hb)
  | (with_reducible refine Rets.xcall (hm _) ?_)
  | (with_reducible refine Lit.imm ?_)
  | (simp -dsimp -implicitDefEqProofs [-q5f, *]))
 refine k2l (bytes := 1) (n := 1) q5z q5l [3#8] E rfl rfl rfl hnp (by omega) fun o ho hol => ?_
 have kl : Hid (q5y o = 3#8 :: E) := ⟨hol⟩
 clear hol hm hsz
 repeat' (simp -dsimp -implicitDefEqProofs [-q5f, *])
 have hgb : q5w ((b, .arr T.apiValue (k00 (l.flatMap Wv.row) l.length)) :: st) b = some (.arr T.apiValue (k00 (l.flatMap Wv.row) l.length)) := by simp
 have hns : q6u st b := ‹_›
 have hle : ∀ q : Option (Acc (BitVec 8)), accOk q5e 1 ((b, .arr T.apiValue (k00 (l.flatMap Wv.row) l.length)) :: st) q → RetView .ret (k1p q) (q6o T.uint8 ((b, .arr T.apiValue (k00 (l.flatMap Wv.row) l.length)) :: st) q) (fun e s => e = .ret (q5s false (q5y q)) ∧ s = st) := fun q hq => RetView.accP1 rfl hq (.drop (.fresh hns) ⟨rfl, rfl⟩)
 have kle : Hid (∀ q : Option (Acc (BitVec 8)), accOk q5e 1 ((b, .arr T.apiValue (k00 (l.flatMap Wv.row) l.length)) :: st) q → RetView .ret (k1p q) (q6o T.uint8 ((b, .arr T.apiValue (k00 (l.flatMap Wv.row) l.length)) :: st) q) (fun e s => e = .ret (q5s false (q5y q)) ∧ s = st)) := ⟨hle⟩
 clear hle hns
 have hlrow : ∃ rows, l.flatMap Wv.row = rows ∧ rows.length = l.length * 4 := ⟨_, rfl, q6h (enc := Wv.row) (k := 4) (fun _ => rfl) l⟩
 obtain ⟨rows, hrows, hfl⟩ := hlrow
 rw [hrows] at hgb kle ho
 rw [hrows]
 generalize hst1 : (b, PObj.arr T.apiValue (k00 rows l.length)) :: st = st1 at *
 have kok : Hid (∀ v ∈ l, ∀ st, Rets P F.q0k [.agg v.row] st (q5s false v.B)) := ⟨hok⟩
 have kB : Hid (∀ v ∈ l, v.B.length ≤ 2000) := ⟨hB⟩
 have krows : Hid (l.flatMap Wv.row = rows) := ⟨hrows⟩
 clear hok hB hst1 hrows
 refine q5g (fun y : Nat × Option (Acc (BitVec 8)) => [(1, .ptr b 0), (3, k1p y.2), (4, .int (y.1 : Nat))]) (fun y => q6o T.uint8 st1 y.2) (fun y => y.1 ≤ l.length ∧ accOk q5e 1 st1 y.2 ∧ q5y y.2 = 3#8 :: (E ++ (l.take y.1).flatMap Wv.B)) (fun y => l.length - y.1) (0, o) ⟨by omega, ho, by rw [kl.out]; simp⟩ (by simp) (.refl _) ?_
 clear kl ho
 clear o
 rintro ⟨i, q⟩ ⟨hi, hq, hql⟩
 simp only at hi hq hql
 have kl : Hid (q5y q = 3#8 :: (E ++ (l.take i).flatMap Wv.B)) := ⟨hql⟩
 clear hql
 have hgq := k8h (T := T.uint8) hq hgb
 by_cases hil : i < l.length
 ·have hv := kok.out l[i] (List.getElem_mem hil)
  have hs := k0i (enc := Wv.row) (k := 4) (fun _ => rfl) l i hil
  rw [krows.out] at hs
  have kT : Hid ((l.take (i + 1)).flatMap Wv.B = (l.take i).flatMap Wv.B ++ l[i].B) := ⟨by rw [List.take_succ_eq_append_getElem hil, List.flatMap_append, List.flatMap_cons, List.flatMap_nil, List.append_nil]⟩
  have hwi := q5h (n := i) (by omega)
  have hb2 := kB.out l[i] (List.getElem_mem hil)
  have hlq : (q5y q).length ≤ 1000000 := by
   rw [kl.out]
   have h1 := k12 (l.take i) fun v hv => kB.out v (List.mem_of_mem_take hv)
   simp only [List.length_append, List.length_cons, List.length_take] at h1 ⊢
   omega
  generalize l[i] = v at *
  repeat' (first 
   | (with_reducible refine Rets.xcall (hv _) ?_)
   | (simp -dsimp -implicitDefEqProofs [-q5f, *]))
  refine q6t q5z q5l q hq v.B rfl rfl (by omega) fun q2 hq2 hl2 => ?_
  have kl2 : Hid (q5y q2 = 3#8 :: (E ++ (l.take (i + 1)).flatMap Wv.B)) := ⟨by rw [hl2, kl.out, kT.out]; simp⟩
  clear hl2 kl
  repeat' (simp -dsimp -implicitDefEqProofs [-q5f, *])
  exact Next.intro (i + 1, q2) ⟨by simp only; omega, hq2, kl2.out⟩ (by simp only; omega) (by simp) q5q
 ·have e : i = l.length := by omega
  subst e
  have kl2 : Hid (q5y q = 3#8 :: (E ++ l.flatMap Wv.B)) := ⟨by rw [kl.out, List.take_length]⟩
  have hend := kle.out q hq
  clear kl
  rw [kl2.out] at hend
  repeat' (simp -dsimp -implicitDefEqProofs [-q5f, *])
open Go.Pv Go.Pv.Sha
set_option maxRecDepth 100000
set_option maxHeartbeats 4000000
def DepthN (D : Nat) (st : q5d) (e : PEnd) (s : q5d) : Prop := ∃ d : Nat, d ≤ D ∧ e = .ret (.int (d : Int)) ∧ s = st
theorem k1g (n : Nat) (st : q5d) : Rets P F.q0o [.agg (j8j n)] st (.bool true) := by
 refine H.q0o.pure q5n rfl rfl ?_
 repeat' (first 
  | (with_reducible refine Fresh.intro fun b hb => ?_) <;> (try simp -dsimp -implicitDefEqProofs [*] at hb)
  | (simp -dsimp -implicitDefEqProofs [*]))
theorem z3h (x : ByteArray) (st : q5d) : Rets P F.q0o [.agg (z3f x)] st (.bool true) := by
 refine H.q0o.pure q5n rfl rfl ?_
 repeat' (first 
  | (with_reducible refine Fresh.intro fun b hb => ?_) <;> (try simp -dsimp -implicitDefEqProofs [*] at hb)
  | (simp -dsimp -implicitDefEqProofs [*]))
theorem k2m (n : Nat) (st : q5d) : PCalls P F.q0s [.agg (j8j n)] st (DepthN 0 st) := by
 refine H.q0s.view q5n rfl rfl ?_
 repeat' (first 
  | (with_reducible refine Fresh.intro fun b hb => ?_) <;> (try simp -dsimp -implicitDefEqProofs [*] at hb)
  | (simp -dsimp -implicitDefEqProofs [*]))
 exact .drop q5q ⟨0, Nat.le_refl _, rfl, rfl⟩
theorem z5b (x : ByteArray) (st : q5d) : PCalls P F.q0s [.agg (z3f x)] st (DepthN 0 st) := by
 refine H.q0s.view q5n rfl rfl ?_
 repeat' (first 
  | (with_reducible refine Fresh.intro fun b hb => ?_) <;> (try simp -dsimp -implicitDefEqProofs [*] at hb)
  | (simp -dsimp -implicitDefEqProofs [*]))
 exact .drop q5q ⟨0, Nat.le_refl _, rfl, rfl⟩
theorem k57 (l : List Wv) (hl : l.length ≤ 100) (st : q5d) (hf : ∀ v ∈ l, ∀ st, Rets P F.q0o [.agg v.row] st (.bool true)) : Rets P F.q0o [.agg (k00 (l.flatMap Wv.row) l.length)] st (.bool true) := by
 refine H.q0o.pure q5n rfl rfl ?_
 have hfl := q6h (enc := Wv.row) (k := 4) (fun _ => rfl) l
 have hs := fun i h => k0i (enc := Wv.row) (k := 4) (fun _ => rfl) l i h
 generalize l.flatMap Wv.row = rows at *
 repeat' (first 
  | (with_reducible refine Fresh.intro fun b hb => ?_) <;> (try simp -dsimp -implicitDefEqProofs [*] at hb)
  | (simp -dsimp -implicitDefEqProofs [*]))
 refine q5g (fun i : Nat => [(1, .ptr b 0), (3, .int (i : Nat))]) (fun _ => (b, .arr T.apiValue (k00 rows l.length)) :: st) (fun i => i ≤ l.length) (fun i => l.length - i) 0 (by omega) (by simp) (.refl _) ?_
 intro i hi
 by_cases hil : i < l.length
 ·have hv := hf l[i] (List.getElem_mem hil)
  have hs' := hs i hil
  clear hs
  have hwi := q5h (n := i) (by omega)
  generalize l[i] = v at *
  repeat' (first 
   | (with_reducible refine Rets.xcall (hv _) ?_)
   | (simp -dsimp -implicitDefEqProofs [*]))
  exact Next.intro (i + 1) (by omega) (by omega) (by simp) q5q
 ·have e : i = l.length := by omega
  subst e
  repeat' (simp -dsimp -implicitDefEqProofs [*])
theorem k7u (D : Nat) (hD : D ≤ 10) (l : List Wv) (hl : l.length ≤ 100) (st : q5d) (hf : ∀ v ∈ l, ∀ st, PCalls P F.q0s [.agg v.row] st (DepthN D st)) :
  PCalls P F.q0s [.agg (k00 (l.flatMap Wv.row) l.length)] st (DepthN (D + 1) st) := by
 refine H.q0s.view q5n rfl rfl ?_
 have hfl := q6h (enc := Wv.row) (k := 4) (fun _ => rfl) l
 have hs := fun i h => k0i (enc := Wv.row) (k := 4) (fun _ => rfl) l i h
 generalize l.flatMap Wv.row = rows at *
 repeat' (first 
  | (with_reducible refine Fresh.intro fun b hb => ?_) <;> (try simp -dsimp -implicitDefEqProofs [*] at hb)
  | (simp -dsimp -implicitDefEqProofs [*]))
 refine q5g (fun y : Nat × Nat => [(1, .ptr b 0), (3, .int (y.2 : Nat)), (4, .int (y.1 : Nat))]) (fun _ => (b, .arr T.apiValue (k00 rows l.length)) :: st) (fun y => y.1 ≤ l.length ∧ y.2 ≤ D) (fun y => l.length - y.1) (0, 0) ⟨by omega, by omega⟩ (by simp) (.refl _) ?_
 rintro ⟨i, d⟩ ⟨hi, hd⟩
 simp only at hi hd
 by_cases hil : i < l.length
 ·have hv := hf l[i] (List.getElem_mem hil)
  have hs' := hs i hil
  clear hs hf
  have hwi := q5h (n := i) (by omega)
  generalize l[i] = v at *
  repeat' (simp -dsimp -implicitDefEqProofs [*])
  refine q50 (hv _) ?_
  rintro e s2 ⟨d2, hd2, rfl, rfl⟩
  rw [q7m]
  clear hv
  by_cases hdd : d < d2
  ·repeat' (simp -dsimp -implicitDefEqProofs [*])
   exact Next.intro (i + 1, d2) ⟨by simp only; omega, hd2⟩ (by simp only; omega) (by simp) q5q
  ·repeat' (simp -dsimp -implicitDefEqProofs [*])
   exact Next.intro (i + 1, d) ⟨by simp only; omega, hd⟩ (by simp only; omega) (by simp) q5q
 ·have e : i = l.length := by omega
  subst e
  have hwd := q5h (n := d) (by omega)
  repeat' (simp -dsimp -implicitDefEqProofs [*])
  exact .drop q5q ⟨d + 1, by omega, by simp, rfl⟩
open Go.Pv Go.Pv.Sha
set_option maxRecDepth 100000
set_option maxHeartbeats 4000000
def q97 (n : Nat) : Wv := ⟨1, .int (n : Int), q7u, .nil, 1#8 :: k0z (2 * n)⟩
def j0i (x : ByteArray) : Wv := ⟨2, .int 0, .str x, .nil, 2#8 :: (k0z x.size ++ q8m x)⟩
def z5c (l : List Wv) : Wv := ⟨3, .int 0, q7u, .list false (l.flatMap Wv.row) l.length, 3#8 :: (k0z l.length ++ l.flatMap Wv.B)⟩
abbrev BIG : Nat := 1000000000000
theorem k0k (n : Nat) (hn : n < BIG) : (q97 n).B.length ≤ 11 := by
 have := q62 (n := 2 * n) (by unfold BIG at hn; omega)
 show (1#8 :: k0z (2 * n)).length ≤ 11
 rw [List.length_cons]; omega
theorem k45 (M n : Nat) (hM : M ≤ 1000000) (hn : n < BIG) (c : PV) : (q97 n).Ok M (wtab c) := ⟨(by decide : 1 < 4), by have := k0k n hn; omega, _, _, rfl, fun o st ho hol => z3g n hn o st ho (by omega)⟩
theorem k8j (M : Nat) (hM : M ≤ 1000000) (x : ByteArray) (hx : x.size ≤ 1000) (c : PV) : (j0i x).Ok M (wtab c) := ⟨(by decide : 2 < 4), by
 have := q62 (n := x.size) (by omega)
 show (2#8 :: (k0z x.size ++ q8m x)).length ≤ 2000
 rw [List.length_cons, List.length_append, k1f]; omega, _, _, rfl, fun o st ho hol => z0q x hx o st ho (by omega)⟩
theorem ints_flat (l : List Nat) (hl : ∀ n ∈ l, n < BIG) : ((l.map q97).flatMap Wv.B).length ≤ l.length * 11 := by
 induction l with
 | nil => simp
 | cons n l ih =>
  have h1 := ih fun m hm => hl m (List.mem_cons_of_mem _ hm)
  have h2 := k0k n (hl n List.mem_cons_self)
  simp only [List.map_cons, List.flatMap_cons, List.length_append, List.length_cons]
  omega
abbrev k2y (l : List Nat) : Wv := z5c (l.map q97)
theorem k3o (l : List Nat) (h100 : l.length ≤ 100) (hl : ∀ n ∈ l, n < BIG) : (k2y l).B.length ≤ 2000 := by
 have h1 := ints_flat l hl
 have h2 := q62 (n := l.length) (by omega)
 show (3#8 :: (k0z (l.map q97).length ++ (l.map q97).flatMap Wv.B)).length ≤ 2000
 rw [List.length_map, List.length_cons, List.length_append]
 omega
theorem k8k (M : Nat) (hM : M ≤ 500000) (l : List Nat) (h100 : l.length ≤ 100) (hl : ∀ n ∈ l, n < BIG) (c : PV) : (k2y l).Ok M (wtab (z5y (wtab c))) :=
 ⟨(by decide : 3 < 4), k3o l h100 hl, _, _, rfl, fun o st ho hol => k4j M hM (wtab c) (l.map q97) (by simpa using h100) (fun v hv => by
  obtain ⟨n, hn, rfl⟩ := List.mem_map.1 hv
  exact k45 _ n (by omega) (hl n hn) c) o st ho hol⟩
def parts (r e j : Nat) (m k : List Nat) (x : ByteArray) : List Wv := [q97 r, q97 e, q97 j, k2y m, k2y k, j0i x]
def k77 (r e j : Nat) (m k : List Nat) (x : ByteArray) : List (BitVec 8) := (z5c (parts r e j m k x)).B
structure Fit (r e j : Nat) (m k : List Nat) (x : ByteArray) : Prop where
 hr : r < BIG
 he : e < BIG
 hj : j < BIG
 hm : ∀ n ∈ m, n < BIG
 hk : ∀ n ∈ k, n < BIG
 m0 : 0 < m.length
 k0 : 0 < k.length
 m1 : m.length ≤ 100
 k1 : k.length ≤ 100
 hx : x.size ≤ 1000
theorem q95 {r e j : Nat} {m k : List Nat} {x : ByteArray} {Q : Wv → Prop} (h1 : Q (q97 r)) (h2 : Q (q97 e)) (h3 : Q (q97 j)) (h4 : Q (k2y m)) (h5 : Q (k2y k)) (h6 : Q (j0i x)) : ∀ v ∈ parts r e j m k x, Q v := by
 intro v hv
 simp only [parts, List.mem_cons, List.not_mem_nil, or_false] at hv
 rcases hv with rfl | rfl | rfl | rfl | rfl | rfl <;> assumption
theorem j3i (l : List Nat) (h0 : 0 < l.length) (h1 : l.length ≤ 100) (st : q5d) : PCalls P F.q1e [.agg (k2y l).row] st (FormedN 1 st) :=
 z1w 0 (l.map q97) (by simpa using h0) (by simpa using h1) (by omega) st fun v hv st => by
  obtain ⟨n, hn, rfl⟩ := List.mem_map.1 hv
  exact k55 n st
theorem FormedN.le {D E : Nat} (h : D ≤ E) {f : FuncId} {a : List PV} {st : q5d} (k : PCalls P f a st (FormedN D st)) : PCalls P f a st (FormedN E st) := k.mono fun _ _ ⟨d, h1, h2, h3⟩ => ⟨d, by omega, h2, h3⟩
theorem y0c {r e j : Nat} {m k : List Nat} {x : ByteArray} (h : Fit r e j m k x) (st : q5d) : Rets P F.q4q [.agg (z5c (parts r e j m k x)).row] st (.tuple [q5s false (k77 r e j m k x), .int 0]) :=
 z66 (parts r e j m k x) (by simp [parts]) (by simp [parts]) 1 (by omega)
  (fun c => q95 (k45 _ _ (by omega) h.hr _) (k45 _ _ (by omega) h.he _) (k45 _ _ (by omega) h.hj _) (k8k _ (by omega) m h.m1 h.hm c) (k8k _ (by omega) k h.k1 h.hk c) (k8j _ (by omega) x h.hx _))
  (fun v hv => (q95 (Q := fun v => ∀ st, PCalls P F.q1e [.agg v.row] st (FormedN 1 st)) (fun st => FormedN.le (by omega) (k55 r st)) (fun st => FormedN.le (by omega) (k55 e st)) (fun st => FormedN.le (by omega) (k55 j st)) (j3i m h.m0 h.m1) (j3i k h.k0 h.k1) (fun st => FormedN.le (by omega) (j0g x st))) v hv) st
theorem z1y (l : List Nat) (h1 : l.length ≤ 100) (hl : ∀ n ∈ l, n < BIG) (st : q5d) : Rets P F.q0k [.agg (k2y l).row] st (q5s false (k2y l).B) :=
 z1x (l.map q97) (by simpa using h1) (fun v hv => by
  obtain ⟨n, hn, rfl⟩ := List.mem_map.1 hv
  have := k0k n (hl n hn); omega) (fun v hv st => by
  obtain ⟨n, hn, rfl⟩ := List.mem_map.1 hv
  exact k56 n (hl n hn) st) st
theorem k58 (l : List Nat) (h1 : l.length ≤ 100) (st : q5d) : Rets P F.q0o [.agg (k2y l).row] st (.bool true) :=
 k57 (l.map q97) (by simpa using h1) st fun v hv st => by
  obtain ⟨n, hn, rfl⟩ := List.mem_map.1 hv
  exact k1g n st
theorem DepthN.le {D E : Nat} (h : D ≤ E) {f : FuncId} {a : List PV} {st : q5d} (k : PCalls P f a st (DepthN D st)) : PCalls P f a st (DepthN E st) := k.mono fun _ _ ⟨d, h1, h2, h3⟩ => ⟨d, by omega, h2, h3⟩
theorem k7v (l : List Nat) (h1 : l.length ≤ 100) (st : q5d) : PCalls P F.q0s [.agg (k2y l).row] st (DepthN 1 st) :=
 k7u 0 (by omega) (l.map q97) (by simpa using h1) st fun v hv st => by
  obtain ⟨n, hn, rfl⟩ := List.mem_map.1 hv
  exact k2m n st
theorem z3i (c0 c1 c2 c3 : PV) (D : Nat) (hD : D ≤ 16) (st : q5d) (hf : ∀ st, Rets P F.q0o [.agg [c0, c1, c2, c3]] st (.bool true)) (hd : ∀ st, PCalls P F.q0s [.agg [c0, c1, c2, c3]] st (DepthN D st)) : Rets P F.q3d [.agg [c0, c1, c2, c3]] st (.int 0) := by
 refine H.q3d.pure q5n rfl rfl ?_
 repeat' (first 
  | (with_reducible refine Fresh.intro fun b hb => ?_) <;> (try simp -dsimp -implicitDefEqProofs [*] at hb)
  | (with_reducible refine Rets.xcall (hf _) ?_)
  | (simp -dsimp -implicitDefEqProofs [*]))
 clear hf
 refine q50 (hd _) ?_
 rintro e s ⟨d, hd, rfl, rfl⟩
 rw [q7m]
 have h16 : ¬ (16 : Int) < d := by omega
 repeat' (simp -dsimp -implicitDefEqProofs [*])
theorem z0s (c0 c1 c2 c3 : PV) (B : List (BitVec 8)) (st : q5d) (hc : ∀ st, Rets P F.q3d [.agg [c0, c1, c2, c3]] st (.int 0)) (he : ∀ st, Rets P F.q0k [.agg [c0, c1, c2, c3]] st (q5s false B)) :
  Rets P F.q24 [.agg [c0, c1, c2, c3]] st (.tuple [q5s false B, .int 0]) := by
 refine H.q24.pure q5n rfl rfl ?_
 repeat' (first 
  | (with_reducible refine Fresh.intro fun b hb => ?_) <;> (try simp -dsimp -implicitDefEqProofs [*] at hb)
  | (with_reducible refine Rets.xcall (hc _) ?_)
  | (with_reducible refine Rets.xcall (he _) ?_)
  | (simp -dsimp -implicitDefEqProofs [*]))
theorem j0j {r e j : Nat} {m k : List Nat} {x : ByteArray} (h : Fit r e j m k x) (st : q5d) : Rets P F.q24 [.agg (z5c (parts r e j m k x)).row] st (.tuple [q5s false (k77 r e j m k x), .int 0]) := by
 have hB : ∀ v ∈ parts r e j m k x, v.B.length ≤ 2000 := fun v hv => (q95 (Q := fun v => v.Ok 0 (wtab (z5y (wtab .nil)))) (k45 _ _ (by omega) h.hr _) (k45 _ _ (by omega) h.he _) (k45 _ _ (by omega) h.hj _) (k8k _ (by omega) m h.m1 h.hm .nil) (k8k _ (by omega) k h.k1 h.hk .nil) (k8j _ (by omega) x h.hx _) v hv).B
 refine z0s _ _ _ _ _ st (fun st => z3i _ _ _ _ 2 (by omega) st (fun st => ?_) (fun st => ?_)) (fun st => ?_)
 ·exact k57 (parts r e j m k x) (by simp [parts]) st (q95 (Q := fun v => ∀ st, Rets P F.q0o [.agg v.row] st (.bool true)) (k1g r) (k1g e) (k1g j) (k58 m h.m1) (k58 k h.k1) (z3h x))
 ·exact k7u 1 (by omega) (parts r e j m k x) (by simp [parts]) st (q95 (Q := fun v => ∀ st, PCalls P F.q0s [.agg v.row] st (DepthN 1 st)) (fun st => DepthN.le (by omega) (k2m r st)) (fun st => DepthN.le (by omega) (k2m e st)) (fun st => DepthN.le (by omega) (k2m j st)) (k7v m h.m1) (k7v k h.k1) (fun st => DepthN.le (by omega) (z5b x st)))
 ·exact z1x (parts r e j m k x) (by simp [parts]) hB (q95 (Q := fun v => ∀ st, Rets P F.q0k [.agg v.row] st (q5s false v.B)) (k56 r h.hr) (k56 e h.he) (k56 j h.hj) (z1y m h.m1 h.hm) (z1y k h.k1 h.hk) (j0h x h.hx)) st
end Go.Proofs.YtnooplpbpfiapaaGreatDoor
