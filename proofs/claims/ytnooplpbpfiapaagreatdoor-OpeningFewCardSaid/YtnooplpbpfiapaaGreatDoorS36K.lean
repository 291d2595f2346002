/- Encodings by the program: values that are well-formed. -/
import Derived.Test.YtnooplpbpfiapaaGreatDoorS36G
namespace Go.Proofs.YtnooplpbpfiapaaGreatDoor
open Go.Pv Go.Pv.Sha
set_option maxRecDepth 100000
set_option maxHeartbeats 4000000
def FormedN (D : Nat) (st : q43) (e : PEnd) (s : q43) : Prop := ∃ d : Nat, d ≤ D ∧ e = .ret (.tuple [.int (d : Int), .bool true]) ∧ s = st
theorem k5m (n : Nat) (st : q43) : PCalls P F.q1d [.agg (j78 n)] st (FormedN 0 st) := by
 refine H.q1d.view q5d rfl rfl ?_
 by_cases hn : n = 0
 ·subst hn
  repeat' (first 
   | (with_reducible refine Fresh.intro fun b hb => ?_) <;> (try simp -dsimp -implicitDefEqProofs [*] at hb)
   | (simp -dsimp -implicitDefEqProofs [*]))
  exact .drop q5l ⟨0, Nat.le_refl _, rfl, rfl⟩
 ·have hn' : ¬ (n : Int) = 0 := by omega
  repeat' (first 
   | (with_reducible refine Fresh.intro fun b hb => ?_) <;> (try simp -dsimp -implicitDefEqProofs [*] at hb)
   | (simp -dsimp -implicitDefEqProofs [*]))
  exact .drop q5l ⟨0, Nat.le_refl _, rfl, rfl⟩
theorem z90 (x : ByteArray) (st : q43) : PCalls P F.q1d [.agg (z23 x)] st (FormedN 0 st) := by
 refine H.q1d.view q5d rfl rfl ?_
 by_cases hx : x = ⟨#[]⟩
 ·subst hx
  repeat' (first 
   | (with_reducible refine Fresh.intro fun b hb => ?_) <;> (try simp -dsimp -implicitDefEqProofs [*] at hb)
   | (simp -dsimp -implicitDefEqProofs [*]))
  exact .drop q5l ⟨0, Nat.le_refl _, rfl, rfl⟩
 ·repeat' (first 
   | (with_reducible refine Fresh.intro fun b hb => ?_) <;> (try simp -dsimp -implicitDefEqProofs [*] at hb)
   | (simp -dsimp -implicitDefEqProofs [*]))
  exact .drop q5l ⟨0, Nat.le_refl _, rfl, rfl⟩
theorem z1k (D : Nat) (l : List Wv) (hl0 : 0 < l.length) (hl : l.length ≤ 100) (hD : D ≤ 10) (st : q43) (hf : ∀ v ∈ l, ∀ st, PCalls P F.q1d [.agg v.row] st (FormedN D st)) : PCalls P F.q1d [.agg (k0l (l.flatMap Wv.row) l.length)] st (FormedN (D + 1) st) := by
 refine H.q1d.view q5d rfl rfl ?_
 have h0' : ¬ (l.length : Int) = 0 := by omega
 repeat' (first 
  | (with_reducible refine Fresh.intro fun b hb => ?_) <;> (try simp -dsimp -implicitDefEqProofs [*] at hb)
  | (simp -dsimp -implicitDefEqProofs [*]))
 refine q46 (fun y : Nat × Nat => [(2, .int (y.2 : Nat)), (55, .list false (l.flatMap Wv.row) l.length), (56, .int l.length), (57, .int (y.1 : Nat))]) (fun _ => st) (fun y => y.1 ≤ l.length ∧ y.2 ≤ D) (fun y => l.length - y.1) (0, 0) ⟨by omega, by omega⟩ (by simp) q5l ?_
 rintro ⟨i, d⟩ ⟨hi, hd⟩
 simp only at hi hd
 by_cases hil : i < l.length
 ·have hv := hf l[i] (List.getElem_mem hil)
  have hs := q95 (enc := Wv.row) (k := 4) (fun _ => rfl) l i hil
  have hfl := q6c (enc := Wv.row) (k := 4) (fun _ => rfl) l
  have hwi := q47 (n := i) (by omega)
  generalize l[i] = v at *
  generalize hrows : l.flatMap Wv.row = rows at *
  repeat' (first 
   | (with_reducible refine Fresh.intro fun b hb => ?_) <;> (try simp -dsimp -implicitDefEqProofs [*] at hb)
   | (simp -dsimp -implicitDefEqProofs [*]))
  refine q5q (hv _) ?_
  rintro e s2 ⟨d2, hd2, rfl, rfl⟩
  rw [q7b]
  clear hv
  by_cases hdd : d < d2
  ·repeat' (simp -dsimp -implicitDefEqProofs [*])
   exact Next.intro (i + 1, d2) ⟨by simp only; omega, hd2⟩ (by simp only; omega) (by simp) q5l
  ·repeat' (simp -dsimp -implicitDefEqProofs [*])
   exact Next.intro (i + 1, d) ⟨by simp only; omega, hd⟩ (by simp only; omega) (by simp) q5l
 ·have e : i = l.length := by omega
  subst e
  have hwd := q47 (n := d) (by omega)
  repeat' (simp -dsimp -implicitDefEqProofs [*])
  exact .same ⟨d + 1, by omega, by simp, rfl⟩
open Go.Pv Go.Pv.Sha
set_option maxRecDepth 100000
set_option maxHeartbeats 4000000
theorem k9c (c0 c1 c2 c3 : PV) (D : Nat) (hD : D ≤ 16) (st : q43) (hf : ∀ st, PCalls P F.q1d [.agg [c0, c1, c2, c3]] st (FormedN D st)) : Rets P F.q4p [.agg [c0, c1, c2, c3]] st (.int 0) := by
 refine H.q4p.pure q5d rfl rfl ?_
 repeat' (first 
  | (with_reducible refine Fresh.intro fun b hb => ?_) <;> (try simp -dsimp -implicitDefEqProofs [*] at hb)
  | (simp -dsimp -implicitDefEqProofs [*]))
 refine q5q (hf _) ?_
 rintro e s ⟨d, hd, rfl, rfl⟩
 rw [q7b]
 clear hf
 have h16 : ¬ (16 : Int) < d := by omega
 repeat' (simp -dsimp -implicitDefEqProofs [*])
theorem Frozen.mono {I I' : Imm} {b : Nat} {o : PObj} (h : Frozen I b o) (hle : I.le I') : Frozen I' b o := by
 obtain ⟨r, h1, h2⟩ := h
 exact ⟨r, hle _ _ h1, k1c hle h2⟩
theorem Sees.freeze2 {b c : Nat} {o x : PObj} {p q : PV} {st : q43} (hn : q6h ((c, x) :: st) b) (hm : q6h st c) (hf : ∀ I, Frozen I b o → Frozen I c x → ∀ v, vrep I p v → vrep I q v) : Sees p ((b, o) :: (c, x) :: st) q st := ⟨fun I w v h1 h2 => by
 obtain ⟨I1, h3, h4, h5⟩ := h1.freeze hn
 obtain ⟨I2, h6, h7, h8⟩ := h4.freeze hm
 exact ⟨I2, Imm.le_trans h3 h6, h7, hf I2 (Frozen.mono h5 h6) h8 v (q64 h6 _ _ (q64 h3 _ _ h2))⟩⟩
theorem Frz.wtab {b : Nat} {o : PObj} {c d : PV} (h : Frz b o c d) : Frzs b o (wtab c) (wtab d) :=
 .cons (.refl _) (.cons (.refl _) (.cons (.refl _) (.cons (.func _ .nil (.cons h .nil)) .nil)))
theorem z0d (st : q43) : PCalls P F.q34 [] st (fun e s => ∃ c, e = .ret (.iptr (wtab (z5o (wtab (z5o (wtab c))))) 0) ∧ s = st) := by
 refine H.q34.view q5d rfl rfl ?_
 repeat' (first 
  | (with_reducible refine Fresh.intro fun b hb => ?_) <;> (try simp -dsimp -implicitDefEqProofs [*] at hb)
  | (simp -dsimp -implicitDefEqProofs [*]))
 revert b
 intro w hw
 revert b
 intro p hp hw
 have e1 : Frz p (.arr T.q42 (wtab (.ptr w 0))) (.ptr p 0) (.iptr (wtab (.ptr w 0)) 0) := .ptr _ _ 0 rfl
 have e2 : Frz w (.arr T.codecwriter [.ptr p 0]) (.ptr w 0) (.iptr [.ptr p 0] 0) := .ptr _ _ 0 rfl
 refine .sees (Sees.freeze2 (q := .iptr (wtab (z5o (wtab (z5o (wtab (.ptr w 0)))))) 0) hw hp fun I fw fp v h0 => ?_) (.same ⟨⟨_, rfl⟩, rfl⟩)
 have h1 := Frz.vrep fp e1 h0
 have h2 := Frz.vrep fw (.iptr 0 (Frz.wtab e2)) h1
 have h3 := Frz.vrep fp (.iptr 0 (Frz.wtab (.iptr 0 (.cons e1 .nil)))) h2
 have h4 := Frz.vrep fw (.iptr 0 (Frz.wtab (.iptr 0 (.cons (.iptr 0 (Frz.wtab e2)) .nil)))) h3
 exact Frz.vrep fp (.iptr 0 (Frz.wtab (.iptr 0 (.cons (.iptr 0 (Frz.wtab (.iptr 0 (.cons e1 .nil)))) .nil)))) h4
theorem z6x (l : List Wv) (hl0 : 0 < l.length) (hl : l.length ≤ 100) (D : Nat) (hD : D ≤ 10) (hok : ∀ c, ∀ v ∈ l, v.Ok 210000 (wtab (z5o (wtab c)))) (hf : ∀ v ∈ l, ∀ st, PCalls P F.q1d [.agg v.row] st (FormedN D st)) (st : q43) :
  Rets P F.q4f [.agg (k0l (l.flatMap Wv.row) l.length)] st (.tuple [q5h false (3#8 :: (k0k l.length ++ l.flatMap Wv.B)), .int 0]) := by
 refine H.q4f.view q5d rfl rfl ?_
 have hc := fun st => k9c (.int 3) (.int 0) q7i (.list false (l.flatMap Wv.row) l.length) (D + 1) (by omega) st (fun st => z1k D l hl0 hl hD st hf)
 repeat' (first 
  | (with_reducible refine Fresh.intro fun b hb => ?_) <;> (try simp -dsimp -implicitDefEqProofs [*] at hb)
  | (with_reducible refine Rets.xcall (hc _) ?_)
  | (simp -dsimp -implicitDefEqProofs [-q45, *]))
 clear hc
 refine DrawLate.by (Cls ((b, .arr T.apiValue (k0l (l.flatMap Wv.row) l.length)) :: st) []) (Cls.self _ _) ?_
 repeat' (simp -dsimp -implicitDefEqProofs [-q45, *])
 refine q5q (z0d _) ?_
 rintro e s2 ⟨c, rfl, rfl⟩
 rw [q7b]
 refine ⟨Cls.self _ _, ?_⟩
 have hok' := hok c
 clear hok
 have htab : (wtab (z5o (wtab (z5o (wtab c)))))[3]? = some (.func (.func F.q2o) [] [z5o (wtab (z5o (wtab c)))]) := rfl
 have kok : Hid (∀ v ∈ l, v.Ok 210000 (wtab (z5o (wtab c)))) := ⟨hok'⟩
 clear hok'
 generalize wtab (z5o (wtab c)) = tab at *
 generalize wtab (z5o tab) = tab3 at *
 repeat' (simp -dsimp -implicitDefEqProofs [-q45, *])
 have hB := k1m l fun v hv => (kok.out v hv).B
 have hn := q6s (n := l.length) (by omega)
 refine q5q (k30 0 (by omega) tab l hl (fun v hv => by simpa using kok.out v hv) none ((b, .arr T.apiValue (k0l (l.flatMap Wv.row) l.length)) :: st) trivial (by simp)) ?_
 rintro e s2 ⟨o, ho, hol, rfl, rfl⟩
 rw [q7b]
 simp only [k21, List.nil_append] at hol
 refine ⟨q9a ho (Cls.self _ _), ?_⟩
 have kl : Hid (q5x o = 3#8 :: (k0k l.length ++ l.flatMap Wv.B)) := ⟨hol⟩
 clear hol kok htab hf
 repeat' (simp -dsimp -implicitDefEqProofs [-q45, *])
 exact RetView.accP2 (row := q44) rfl ho (.drop q5l ⟨by rw [kl.out], rfl⟩)
open Go.Pv Go.Pv.Sha
set_option maxRecDepth 100000
set_option maxHeartbeats 4000000
theorem k15 {α : Type} {row : List α → List PV} {k : Nat} (hrl : ∀ l, (row l).length = l.length * k) (hra : ∀ l m, row (l ++ m) = row l ++ row m) {T : TypeId} {bytes : Nat} {st : q43} {K : PV → q43 → Prop}
  (ys xs : List α) {new : List PV} {m n : Nat} (hn : ys.length = n) (hnew : row xs = new) (hm : xs.length = m) (hm0 : 0 < m) (hsz : (n + m) * bytes ≤ 140737488355328)
  (h : ∀ o' : Option (Acc α), accOk row k st o' → q5x o' = ys ++ xs → K (k0t o') (q6u T st o')) : q6o T bytes k (.list true (row ys) n) new m st K := by
 have h1 : q6o T bytes k .nil (row ys ++ new) (n + m) st K := q7y hrl (ys ++ xs) (by rw [hra, hnew]) (by rw [List.length_append, hn, hm]) (by omega) (by simpa using hsz) fun a' ha' hl' hb' => h (some a') ⟨ha', hb'⟩ (by simpa using hl')
 rw [k4f] at h1
 rw [q45]
 exact ⟨fun h => absurd h (by omega), fun _ => ⟨rfl, by rw [hrl, hn], h1.2 (by omega)⟩⟩
theorem k75 (n : Nat) : 0 < (k0k n).length := by
 by_cases h : n < 128
 ·rw [k9b h]; simp
 ·rw [z21 h]; simp
theorem k6k (u : Nat) : u < 18446744073709551616 → ∀ st, Rets P F.q1k [.val (.int .u64 (u : Int))] st (q5h false (k0k u)) := by
 induction u using Nat.strongRecOn with
 | ind u ih =>
  intro hu st
  refine H.q1k.view q5d rfl rfl ?_
  have hb := k5l u
  by_cases h128 : u < 128
  ·have h : (u : Int) < 128 := by omega
   rw [k9b h128]
   generalize BitVec.ofNat 8 u = x at *
   repeat' (first 
    | (with_reducible refine Lit.imm ?_)
    | (simp -dsimp -implicitDefEqProofs [*]))
   exact .loose1 (.same ⟨rfl, rfl⟩)
  ·have h : ¬ (u : Int) < 128 := by omega
   have ih' := fun st => ih (u / 128) (by omega) (by omega) st
   clear ih hb
   obtain ⟨v, hv⟩ : ∃ v, u / 128 = v := ⟨_, rfl⟩
   obtain ⟨r, hr⟩ : ∃ r, u % 128 = r := ⟨_, rfl⟩
   have hr1 : (u : Int) % 128 = r := by omega
   have hr2 : (u : Int).tmod 128 = r := by rw [Int.tmod_eq_emod_of_nonneg (by omega)]; omega
   have hv1 : (u : Int) / 128 = v := by omega
   have w1 : IntKind.u64.wrap (v : Int) = v := q7q (by omega) (by omega)
   have w2 : IntKind.u64.wrap ((r : Int) + 128) = (r : Int) + 128 := q7q (by omega) (by omega)
   have w3 : IntKind.u64.wrap (r : Int) = r := q7q (by omega) (by omega)
   have hb : PV.val (.int .u8 (IntKind.u8.wrap ((r : Int) + 128))) = bv (BitVec.ofNat 8 (r + 128)) := k5l (r + 128)
   rw [z21 h128, hr, hv]
   rw [hv] at ih'
   have hnl := q6s (n := v) (by omega)
   have hnp := k75 v
   clear hv hr
   generalize BitVec.ofNat 8 (r + 128) = x at *
   generalize k0k v = E at *
   repeat' (first 
    | (with_reducible refine Rets.xcall (ih' _) ?_)
    | (with_reducible refine Lit.imm ?_)
    | (simp -dsimp -implicitDefEqProofs [-q45, *]))
   refine k15 (bytes := 1) (n := 1) q5o q5b [x] E rfl rfl rfl hnp (by omega) fun o ho hol => ?_
   have kl : Hid (q5x o = x :: E) := ⟨hol⟩
   clear hol
   repeat' (simp -dsimp -implicitDefEqProofs [-q45, *])
   exact RetView.accP1 rfl ho (.same ⟨by rw [kl.out], rfl⟩)
theorem z6y (n : Nat) (hn : n < 1000000000000) (st : q43) : Rets P F.q22 [.int (n : Int)] st (.val (.int .u64 ((2 * n : Nat) : Int))) := by
 refine H.q22.pure q5d rfl rfl ?_
 have h1 : IntKind.u64.wrap (n : Int) = n := q7q (by omega) (by omega)
 have h2 : IntKind.u64.wrap (2 * (n : Int)) = 2 * (n : Int) := q7q (by omega) (by omega)
 repeat' (simp -dsimp -implicitDefEqProofs [*])
theorem k5n (n : Nat) (hn : n < 1000000000000) (st : q43) : Rets P F.q0k [.agg (j78 n)] st (q5h false (1#8 :: k0k (2 * n))) := by
 refine H.q0k.view q5d rfl rfl ?_
 have hu := fun st => z6y n hn st
 have hm := fun st => k6k (2 * n) (by omega) st
 have hnl := q6s (n := 2 * n) (by omega)
 have hnp := k75 (2 * n)
 have e : ((2 * n : Nat) : Int) = 2 * (n : Int) := by omega
 rw [e] at hu hm
 generalize k0k (2 * n) = E at *
 repeat' (first 
  | (with_reducible refine Fresh.intro fun b hb => ?_) <;> (try simp -dsimp -implicitDefEqProofs [*] at hb)
  | (with_reducible refine Rets.xcall (hu _) ?_)
  | (with_reducible refine Rets.xcall (hm _) ?_)
  | (with_reducible refine Lit.imm ?_)
  | (simp -dsimp -implicitDefEqProofs [-q45, *]))
 refine k15 (bytes := 1) (n := 1) q5o q5b [1#8] E rfl rfl rfl hnp (by omega) fun o ho hol => ?_
 have kl : Hid (q5x o = 1#8 :: E) := ⟨hol⟩
 clear hol
 repeat' (simp -dsimp -implicitDefEqProofs [-q45, *])
 exact RetView.accP1 rfl ho (.drop q5l ⟨by rw [kl.out], rfl⟩)
theorem z91 (x : ByteArray) (hx : x.size ≤ 1000) (st : q43) : Rets P F.q0k [.agg (z23 x)] st (q5h false (2#8 :: (k0k x.size ++ q8c x))) := by
 refine H.q0k.view q5d rfl rfl ?_
 have hm := fun st => k6k x.size (by omega) st
 have hsz : IntKind.u64.wrap (x.size : Int) = (x.size : Int) := q7q (by omega) (by omega)
 have hnl := q6s (n := x.size) (by omega)
 have hnp := k75 x.size
 generalize k0k x.size = E at *
 repeat' (first 
  | (with_reducible refine Fresh.intro fun b hb => ?_) <;> (try simp -dsimp -implicitDefEqProofs [*] at hb)
  | (with_reducible refine Rets.xcall (hm _) ?_)
  | (with_reducible refine DrawLate.intro [] ?_)
  | (simp -dsimp -implicitDefEqProofs [-q45, *]))
 refine k15 (bytes := 1) (n := 1) q5o q5b [2#8] E rfl rfl rfl hnp (by omega) fun o ho hol => ?_
 have kl : Hid (q5x o = 2#8 :: E) := ⟨hol⟩
 clear hol
 refine ⟨q9a ho (Cls.self _ _), ?_⟩
 repeat' (simp -dsimp -implicitDefEqProofs [-q45, *])
 refine q6g q5o q5b o ho (q8c x) (k12 x).symm (k03 x) (by rw [kl.out]; simp; omega) fun o3 ho3 hl3 => ?_
 have kl3 : Hid (q5x o3 = 2#8 :: (E ++ q8c x)) := ⟨by rw [hl3, kl.out]; simp⟩
 clear hl3 kl
 refine ⟨q9a ho3 (Cls.self _ _), ?_⟩
 repeat' (simp -dsimp -implicitDefEqProofs [-q45, *])
 exact RetView.accP1 rfl ho3 (.drop q5l ⟨by rw [kl3.out], rfl⟩)
theorem z1l (l : List Wv) (hl : l.length ≤ 100) (hB : ∀ v ∈ l, v.B.length ≤ 2000) (hok : ∀ v ∈ l, ∀ st, Rets P F.q0k [.agg v.row] st (q5h false v.B)) (st : q43) : Rets P F.q0k [.agg (k0l (l.flatMap Wv.row) l.length)] st (q5h false (3#8 :: (k0k l.length ++ l.flatMap Wv.B))) := by
 refine H.q0k.view q5d rfl rfl ?_
 have hm := fun st => k6k l.length (by omega) st
 have hsz : IntKind.u64.wrap (l.length : Int) = (l.length : Int) := q7q (by omega) (by omega)
 have hnl := q6s (n := l.length) (by omega)
 have hnp := k75 l.length
 generalize k0k l.length = E at *
 repeat' (first 
  | (with_reducible refine Fresh.intro fun b hb => ?_) <;> (try simp -dsimp -implicitDefEqProofs [*] at hb)
  | (with_reducible refine Rets.xcall (hm _) ?_)
  | (with_reducible refine Lit.imm ?_)
  | (simp -dsimp -implicitDefEqProofs [-q45, *]))
 refine k15 (bytes := 1) (n := 1) q5o q5b [3#8] E rfl rfl rfl hnp (by omega) fun o ho hol => ?_
 have kl : Hid (q5x o = 3#8 :: E) := ⟨hol⟩
 clear hol hm hsz
 repeat' (simp -dsimp -implicitDefEqProofs [-q45, *])
 have hgb : q5m ((b, .arr T.apiValue (k0l (l.flatMap Wv.row) l.length)) :: st) b = some (.arr T.apiValue (k0l (l.flatMap Wv.row) l.length)) := by simp
 have hns : q6h st b := ‹_›
 have hle : ∀ q : Option (Acc (BitVec 8)), accOk q44 1 ((b, .arr T.apiValue (k0l (l.flatMap Wv.row) l.length)) :: st) q → RetView .ret (k0t q) (q6u T.uint8 ((b, .arr T.apiValue (k0l (l.flatMap Wv.row) l.length)) :: st) q) (fun e s => e = .ret (q5h false (q5x q)) ∧ s = st) := fun q hq => RetView.accP1 rfl hq (.drop (.fresh hns) ⟨rfl, rfl⟩)
 have kle : Hid (∀ q : Option (Acc (BitVec 8)), accOk q44 1 ((b, .arr T.apiValue (k0l (l.flatMap Wv.row) l.length)) :: st) q → RetView .ret (k0t q) (q6u T.uint8 ((b, .arr T.apiValue (k0l (l.flatMap Wv.row) l.length)) :: st) q) (fun e s => e = .ret (q5h false (q5x q)) ∧ s = st)) := ⟨hle⟩
 clear hle hns
 have hlrow : ∃ rows, l.flatMap Wv.row = rows ∧ rows.length = l.length * 4 := ⟨_, rfl, q6c (enc := Wv.row) (k := 4) (fun _ => rfl) l⟩
 obtain ⟨rows, hrows, hfl⟩ := hlrow
 rw [hrows] at hgb kle ho
 rw [hrows]
 generalize hst1 : (b, PObj.arr T.apiValue (k0l rows l.length)) :: st = st1 at *
 have kok : Hid (∀ v ∈ l, ∀ st, Rets P F.q0k [.agg v.row] st (q5h false v.B)) := ⟨hok⟩
 have kB : Hid (∀ v ∈ l, v.B.length ≤ 2000) := ⟨hB⟩
 have krows : Hid (l.flatMap Wv.row = rows) := ⟨hrows⟩
 clear hok hB hst1 hrows
 refine q46 (fun y : Nat × Option (Acc (BitVec 8)) => [(1, .ptr b 0), (3, k0t y.2), (4, .int (y.1 : Nat))]) (fun y => q6u T.uint8 st1 y.2) (fun y => y.1 ≤ l.length ∧ accOk q44 1 st1 y.2 ∧ q5x y.2 = 3#8 :: (E ++ (l.take y.1).flatMap Wv.B)) (fun y => l.length - y.1) (0, o) ⟨by omega, ho, by rw [kl.out]; simp⟩ (by simp) (.refl _) ?_
 clear kl ho
 clear o
 rintro ⟨i, q⟩ ⟨hi, hq, hql⟩
 simp only at hi hq hql
 have kl : Hid (q5x q = 3#8 :: (E ++ (l.take i).flatMap Wv.B)) := ⟨hql⟩
 clear hql
 have hgq := k74 (T := T.uint8) hq hgb
 by_cases hil : i < l.length
 ·have hv := kok.out l[i] (List.getElem_mem hil)
  have hs := q95 (enc := Wv.row) (k := 4) (fun _ => rfl) l i hil
  rw [krows.out] at hs
  have kT : Hid ((l.take (i + 1)).flatMap Wv.B = (l.take i).flatMap Wv.B ++ l[i].B) := ⟨by rw [List.take_succ_eq_append_getElem hil, List.flatMap_append, List.flatMap_cons, List.flatMap_nil, List.append_nil]⟩
  have hwi := q47 (n := i) (by omega)
  have hb2 := kB.out l[i] (List.getElem_mem hil)
  have hlq : (q5x q).length ≤ 1000000 := by
   rw [kl.out]
   have h1 := k1m (l.take i) fun v hv => kB.out v (List.mem_of_mem_take hv)
   simp only [List.length_append, List.length_cons, List.length_take] at h1 ⊢
   omega
  generalize l[i] = v at *
  repeat' (first 
   | (with_reducible refine Rets.xcall (hv _) ?_)
   | (simp -dsimp -implicitDefEqProofs [-q45, *]))
  refine q6g q5o q5b q hq v.B rfl rfl (by omega) fun q2 hq2 hl2 => ?_
  have kl2 : Hid (q5x q2 = 3#8 :: (E ++ (l.take (i + 1)).flatMap Wv.B)) := ⟨by rw [hl2, kl.out, kT.out]; simp⟩
  clear hl2 kl
  repeat' (simp -dsimp -implicitDefEqProofs [-q45, *])
  exact Next.intro (i + 1, q2) ⟨by simp only; omega, hq2, kl2.out⟩ (by simp only; omega) (by simp) q5l
 ·have e : i = l.length := by omega
  subst e
  have kl2 : Hid (q5x q = 3#8 :: (E ++ l.flatMap Wv.B)) := ⟨by rw [kl.out, List.take_length]⟩
  have hend := kle.out q hq
  clear kl
  rw [kl2.out] at hend
  repeat' (simp -dsimp -implicitDefEqProofs [-q45, *])
open Go.Pv Go.Pv.Sha
set_option maxRecDepth 100000
set_option maxHeartbeats 4000000
def DepthN (D : Nat) (st : q43) (e : PEnd) (s : q43) : Prop := ∃ d : Nat, d ≤ D ∧ e = .ret (.int (d : Int)) ∧ s = st
theorem k04 (n : Nat) (st : q43) : Rets P F.q0o [.agg (j78 n)] st (.bool true) := by
 refine H.q0o.pure q5d rfl rfl ?_
 repeat' (first 
  | (with_reducible refine Fresh.intro fun b hb => ?_) <;> (try simp -dsimp -implicitDefEqProofs [*] at hb)
  | (simp -dsimp -implicitDefEqProofs [*]))
theorem z25 (x : ByteArray) (st : q43) : Rets P F.q0o [.agg (z23 x)] st (.bool true) := by
 refine H.q0o.pure q5d rfl rfl ?_
 repeat' (first 
  | (with_reducible refine Fresh.intro fun b hb => ?_) <;> (try simp -dsimp -implicitDefEqProofs [*] at hb)
  | (simp -dsimp -implicitDefEqProofs [*]))
theorem k16 (n : Nat) (st : q43) : PCalls P F.q0s [.agg (j78 n)] st (DepthN 0 st) := by
 refine H.q0s.view q5d rfl rfl ?_
 repeat' (first 
  | (with_reducible refine Fresh.intro fun b hb => ?_) <;> (try simp -dsimp -implicitDefEqProofs [*] at hb)
  | (simp -dsimp -implicitDefEqProofs [*]))
 exact .drop q5l ⟨0, Nat.le_refl _, rfl, rfl⟩
theorem z42 (x : ByteArray) (st : q43) : PCalls P F.q0s [.agg (z23 x)] st (DepthN 0 st) := by
 refine H.q0s.view q5d rfl rfl ?_
 repeat' (first 
  | (with_reducible refine Fresh.intro fun b hb => ?_) <;> (try simp -dsimp -implicitDefEqProofs [*] at hb)
  | (simp -dsimp -implicitDefEqProofs [*]))
 exact .drop q5l ⟨0, Nat.le_refl _, rfl, rfl⟩
theorem k5o (l : List Wv) (hl : l.length ≤ 100) (st : q43) (hf : ∀ v ∈ l, ∀ st, Rets P F.q0o [.agg v.row] st (.bool true)) : Rets P F.q0o [.agg (k0l (l.flatMap Wv.row) l.length)] st (.bool true) := by
 refine H.q0o.pure q5d rfl rfl ?_
 have hfl := q6c (enc := Wv.row) (k := 4) (fun _ => rfl) l
 have hs := fun i h => q95 (enc := Wv.row) (k := 4) (fun _ => rfl) l i h
 generalize l.flatMap Wv.row = rows at *
 repeat' (first 
  | (with_reducible refine Fresh.intro fun b hb => ?_) <;> (try simp -dsimp -implicitDefEqProofs [*] at hb)
  | (simp -dsimp -implicitDefEqProofs [*]))
 refine q46 (fun i : Nat => [(1, .ptr b 0), (3, .int (i : Nat))]) (fun _ => (b, .arr T.apiValue (k0l rows l.length)) :: st) (fun i => i ≤ l.length) (fun i => l.length - i) 0 (by omega) (by simp) (.refl _) ?_
 intro i hi
 by_cases hil : i < l.length
 ·have hv := hf l[i] (List.getElem_mem hil)
  have hs' := hs i hil
  clear hs
  have hwi := q47 (n := i) (by omega)
  generalize l[i] = v at *
  repeat' (first 
   | (with_reducible refine Rets.xcall (hv _) ?_)
   | (simp -dsimp -implicitDefEqProofs [*]))
  exact Next.intro (i + 1) (by omega) (by omega) (by simp) q5l
 ·have e : i = l.length := by omega
  subst e
  repeat' (simp -dsimp -implicitDefEqProofs [*])
theorem k7g (D : Nat) (hD : D ≤ 10) (l : List Wv) (hl : l.length ≤ 100) (st : q43) (hf : ∀ v ∈ l, ∀ st, PCalls P F.q0s [.agg v.row] st (DepthN D st)) :
  PCalls P F.q0s [.agg (k0l (l.flatMap Wv.row) l.length)] st (DepthN (D + 1) st) := by
 refine H.q0s.view q5d rfl rfl ?_
 have hfl := q6c (enc := Wv.row) (k := 4) (fun _ => rfl) l
 have hs := fun i h => q95 (enc := Wv.row) (k := 4) (fun _ => rfl) l i h
 generalize l.flatMap Wv.row = rows at *
 repeat' (first 
  | (with_reducible refine Fresh.intro fun b hb => ?_) <;> (try simp -dsimp -implicitDefEqProofs [*] at hb)
  | (simp -dsimp -implicitDefEqProofs [*]))
 refine q46 (fun y : Nat × Nat => [(1, .ptr b 0), (3, .int (y.2 : Nat)), (4, .int (y.1 : Nat))]) (fun _ => (b, .arr T.apiValue (k0l rows l.length)) :: st) (fun y => y.1 ≤ l.length ∧ y.2 ≤ D) (fun y => l.length - y.1) (0, 0) ⟨by omega, by omega⟩ (by simp) (.refl _) ?_
 rintro ⟨i, d⟩ ⟨hi, hd⟩
 simp only at hi hd
 by_cases hil : i < l.length
 ·have hv := hf l[i] (List.getElem_mem hil)
  have hs' := hs i hil
  clear hs hf
  have hwi := q47 (n := i) (by omega)
  generalize l[i] = v at *
  repeat' (simp -dsimp -implicitDefEqProofs [*])
  refine q5q (hv _) ?_
  rintro e s2 ⟨d2, hd2, rfl, rfl⟩
  rw [q7b]
  clear hv
  by_cases hdd : d < d2
  ·repeat' (simp -dsimp -implicitDefEqProofs [*])
   exact Next.intro (i + 1, d2) ⟨by simp only; omega, hd2⟩ (by simp only; omega) (by simp) q5l
  ·repeat' (simp -dsimp -implicitDefEqProofs [*])
   exact Next.intro (i + 1, d) ⟨by simp only; omega, hd⟩ (by simp only; omega) (by simp) q5l
 ·have e : i = l.length := by omega
  subst e
  have hwd := q47 (n := d) (by omega)
  repeat' (simp -dsimp -implicitDefEqProofs [*])
  exact .drop q5l ⟨d + 1, by omega, by simp, rfl⟩
open Go.Pv Go.Pv.Sha
set_option maxRecDepth 100000
set_option maxHeartbeats 4000000
def q9v (n : Nat) : Wv := ⟨1, .int (n : Int), q7i, .nil, 1#8 :: k0k (2 * n)⟩
def z92 (x : ByteArray) : Wv := ⟨2, .int 0, .str x, .nil, 2#8 :: (k0k x.size ++ q8c x)⟩
def z43 (l : List Wv) : Wv := ⟨3, .int 0, q7i, .list false (l.flatMap Wv.row) l.length, 3#8 :: (k0k l.length ++ l.flatMap Wv.B)⟩
abbrev BIG : Nat := 1000000000000
theorem q96 (n : Nat) (hn : n < BIG) : (q9v n).B.length ≤ 11 := by
 have := q6s (n := 2 * n) (by unfold BIG at hn; omega)
 show (1#8 :: k0k (2 * n)).length ≤ 11
 rw [List.length_cons]; omega
theorem k4m (M n : Nat) (hM : M ≤ 1000000) (hn : n < BIG) (c : PV) : (q9v n).Ok M (wtab c) := ⟨(by decide : 1 < 4), by have := q96 n hn; omega, _, _, rfl, fun o st ho hol => z24 n hn o st ho (by omega)⟩
theorem k76 (M : Nat) (hM : M ≤ 1000000) (x : ByteArray) (hx : x.size ≤ 1000) (c : PV) : (z92 x).Ok M (wtab c) := ⟨(by decide : 2 < 4), by
 have := q6s (n := x.size) (by omega)
 show (2#8 :: (k0k x.size ++ q8c x)).length ≤ 2000
 rw [List.length_cons, List.length_append, k03]; omega, _, _, rfl, fun o st ho hol => z0c x hx o st ho (by omega)⟩
theorem ints_flat (l : List Nat) (hl : ∀ n ∈ l, n < BIG) : ((l.map q9v).flatMap Wv.B).length ≤ l.length * 11 := by
 induction l with
 | nil => simp
 | cons n l ih =>
  have h1 := ih fun m hm => hl m (List.mem_cons_of_mem _ hm)
  have h2 := q96 n (hl n List.mem_cons_self)
  simp only [List.map_cons, List.flatMap_cons, List.length_append, List.length_cons]
  omega
abbrev k2h (l : List Nat) : Wv := z43 (l.map q9v)
theorem k29 (l : List Nat) (h100 : l.length ≤ 100) (hl : ∀ n ∈ l, n < BIG) : (k2h l).B.length ≤ 2000 := by
 have h1 := ints_flat l hl
 have h2 := q6s (n := l.length) (by omega)
 show (3#8 :: (k0k (l.map q9v).length ++ (l.map q9v).flatMap Wv.B)).length ≤ 2000
 rw [List.length_map, List.length_cons, List.length_append]
 omega
theorem k77 (M : Nat) (hM : M ≤ 500000) (l : List Nat) (h100 : l.length ≤ 100) (hl : ∀ n ∈ l, n < BIG) (c : PV) : (k2h l).Ok M (wtab (z5o (wtab c))) :=
 ⟨(by decide : 3 < 4), k29 l h100 hl, _, _, rfl, fun o st ho hol => k30 M hM (wtab c) (l.map q9v) (by simpa using h100) (fun v hv => by
  obtain ⟨n, hn, rfl⟩ := List.mem_map.1 hv
  exact k4m _ n (by omega) (hl n hn) c) o st ho hol⟩
def parts (r e j : Nat) (m k : List Nat) (x : ByteArray) : List Wv := [q9v r, q9v e, q9v j, k2h m, k2h k, z92 x]
def k7t (r e j : Nat) (m k : List Nat) (x : ByteArray) : List (BitVec 8) := (z43 (parts r e j m k x)).B
structure Fit (r e j : Nat) (m k : List Nat) (x : ByteArray) : Prop where
 hr : r < BIG
 he : e < BIG
 hj : j < BIG
 hm : ∀ n ∈ m, n < BIG
 hk : ∀ n ∈ k, n < BIG
 m0 : 0 < m.length
 k0 : 0 < k.length
 m1 : m.length ≤ 100
 k1 : k.length ≤ 100
 hx : x.size ≤ 1000
theorem q9s {r e j : Nat} {m k : List Nat} {x : ByteArray} {Q : Wv → Prop} (h1 : Q (q9v r)) (h2 : Q (q9v e)) (h3 : Q (q9v j)) (h4 : Q (k2h m)) (h5 : Q (k2h k)) (h6 : Q (z92 x)) : ∀ v ∈ parts r e j m k x, Q v := by
 intro v hv
 simp only [parts, List.mem_cons, List.not_mem_nil, or_false] at hv
 rcases hv with rfl | rfl | rfl | rfl | rfl | rfl <;> assumption
theorem j29 (l : List Nat) (h0 : 0 < l.length) (h1 : l.length ≤ 100) (st : q43) : PCalls P F.q1d [.agg (k2h l).row] st (FormedN 1 st) :=
 z1k 0 (l.map q9v) (by simpa using h0) (by simpa using h1) (by omega) st fun v hv st => by
  obtain ⟨n, hn, rfl⟩ := List.mem_map.1 hv
  exact k5m n st
theorem FormedN.le {D E : Nat} (h : D ≤ E) {f : FuncId} {a : List PV} {st : q43} (k : PCalls P f a st (FormedN D st)) : PCalls P f a st (FormedN E st) := k.mono fun _ _ ⟨d, h1, h2, h3⟩ => ⟨d, by omega, h2, h3⟩
theorem j93 {r e j : Nat} {m k : List Nat} {x : ByteArray} (h : Fit r e j m k x) (st : q43) : Rets P F.q4f [.agg (z43 (parts r e j m k x)).row] st (.tuple [q5h false (k7t r e j m k x), .int 0]) :=
 z6x (parts r e j m k x) (by simp [parts]) (by simp [parts]) 1 (by omega)
  (fun c => q9s (k4m _ _ (by omega) h.hr _) (k4m _ _ (by omega) h.he _) (k4m _ _ (by omega) h.hj _) (k77 _ (by omega) m h.m1 h.hm c) (k77 _ (by omega) k h.k1 h.hk c) (k76 _ (by omega) x h.hx _))
  (fun v hv => (q9s (Q := fun v => ∀ st, PCalls P F.q1d [.agg v.row] st (FormedN 1 st)) (fun st => FormedN.le (by omega) (k5m r st)) (fun st => FormedN.le (by omega) (k5m e st)) (fun st => FormedN.le (by omega) (k5m j st)) (j29 m h.m0 h.m1) (j29 k h.k0 h.k1) (fun st => FormedN.le (by omega) (z90 x st))) v hv) st
theorem z1m (l : List Nat) (h1 : l.length ≤ 100) (hl : ∀ n ∈ l, n < BIG) (st : q43) : Rets P F.q0k [.agg (k2h l).row] st (q5h false (k2h l).B) :=
 z1l (l.map q9v) (by simpa using h1) (fun v hv => by
  obtain ⟨n, hn, rfl⟩ := List.mem_map.1 hv
  have := q96 n (hl n hn); omega) (fun v hv st => by
  obtain ⟨n, hn, rfl⟩ := List.mem_map.1 hv
  exact k5n n (hl n hn) st) st
theorem k5p (l : List Nat) (h1 : l.length ≤ 100) (st : q43) : Rets P F.q0o [.agg (k2h l).row] st (.bool true) :=
 k5o (l.map q9v) (by simpa using h1) st fun v hv st => by
  obtain ⟨n, hn, rfl⟩ := List.mem_map.1 hv
  exact k04 n st
theorem DepthN.le {D E : Nat} (h : D ≤ E) {f : FuncId} {a : List PV} {st : q43} (k : PCalls P f a st (DepthN D st)) : PCalls P f a st (DepthN E st) := k.mono fun _ _ ⟨d, h1, h2, h3⟩ => ⟨d, by omega, h2, h3⟩
theorem k7h (l : List Nat) (h1 : l.length ≤ 100) (st : q43) : PCalls P F.q0s [.agg (k2h l).row] st (DepthN 1 st) :=
 k7g 0 (by omega) (l.map q9v) (by simpa using h1) st fun v hv st => by
  obtain ⟨n, hn, rfl⟩ := List.mem_map.1 hv
  exact k16 n st
theorem z26 (c0 c1 c2 c3 : PV) (D : Nat) (hD : D ≤ 16) (st : q43) (hf : ∀ st, Rets P F.q0o [.agg [c0, c1, c2, c3]] st (.bool true)) (hd : ∀ st, PCalls P F.q0s [.agg [c0, c1, c2, c3]] st (DepthN D st)) : Rets P F.q27 [.agg [c0, c1, c2, c3]] st (.int 0) := by
 refine H.q27.pure q5d rfl rfl ?_
 repeat' (first 
  | (with_reducible refine Fresh.intro fun b hb => ?_) <;> (try simp -dsimp -implicitDefEqProofs [*] at hb)
  | (with_reducible refine Rets.xcall (hf _) ?_)
  | (simp -dsimp -implicitDefEqProofs [*]))
 clear hf
 refine q5q (hd _) ?_
 rintro e s ⟨d, hd, rfl, rfl⟩
 rw [q7b]
 have h16 : ¬ (16 : Int) < d := by omega
 repeat' (simp -dsimp -implicitDefEqProofs [*])
theorem z0e (c0 c1 c2 c3 : PV) (B : List (BitVec 8)) (st : q43) (hc : ∀ st, Rets P F.q27 [.agg [c0, c1, c2, c3]] st (.int 0)) (he : ∀ st, Rets P F.q0k [.agg [c0, c1, c2, c3]] st (q5h false B)) :
  Rets P F.q2y [.agg [c0, c1, c2, c3]] st (.tuple [q5h false B, .int 0]) := by
 refine H.q2y.pure q5d rfl rfl ?_
 repeat' (first 
  | (with_reducible refine Fresh.intro fun b hb => ?_) <;> (try simp -dsimp -implicitDefEqProofs [*] at hb)
  | (with_reducible refine Rets.xcall (hc _) ?_)
  | (with_reducible refine Rets.xcall (he _) ?_)
  | (simp -dsimp -implicitDefEqProofs [*]))
theorem z93 {r e j : Nat} {m k : List Nat} {x : ByteArray} (h : Fit r e j m k x) (st : q43) : Rets P F.q2y [.agg (z43 (parts r e j m k x)).row] st (.tuple [q5h false (k7t r e j m k x), .int 0]) := by
 have hB : ∀ v ∈ parts r e j m k x, v.B.length ≤ 2000 := fun v hv => (q9s (Q := fun v => v.Ok 0 (wtab (z5o (wtab .nil)))) (k4m _ _ (by omega) h.hr _) (k4m _ _ (by omega) h.he _) (k4m _ _ (by omega) h.hj _) (k77 _ (by omega) m h.m1 h.hm .nil) (k77 _ (by omega) k h.k1 h.hk .nil) (k76 _ (by omega) x h.hx _) v hv).B
 refine z0e _ _ _ _ _ st (fun st => z26 _ _ _ _ 2 (by omega) st (fun st => ?_) (fun st => ?_)) (fun st => ?_)
 ·exact k5o (parts r e j m k x) (by simp [parts]) st (q9s (Q := fun v => ∀ st, Rets P F.q0o [.agg v.row] st (.bool true)) (k04 r) (k04 e) (k04 j) (k5p m h.m1) (k5p k h.k1) (z25 x))
 ·exact k7g 1 (by omega) (parts r e j m k x) (by simp [parts]) st (q9s (Q := fun v => ∀ st, PCalls P F.q0s [.agg v.row] st (DepthN 1 st)) (fun st => DepthN.le (by omega) (k16 r st)) (fun st => DepthN.le (by omega) (k16 e st)) (fun st => DepthN.le (by omega) (k16 j st)) (k7h m h.m1) (k7h k h.k1) (fun st => DepthN.le (by omega) (z42 x st)))
 ·exact z1l (parts r e j m k x) (by simp [parts]) hB (q9s (Q := fun v => ∀ st, Rets P F.q0k [.agg v.row] st (q5h false v.B)) (k5n r h.hr) (k5n e h.he) (k5n j h.hj) (z1m m h.m1 h.hm) (z1m k h.k1 h.hk) (z91 x h.hx)) st
end Go.Proofs.YtnooplpbpfiapaaGreatDoor
