/- Encodings by the program: values that are well-formed. -/
import Derived.Test.YtnooplpbpfiapaaGreatDoorS36G
namespace Go.Proofs.YtnooplpbpfiapaaGreatDoor
open Go.Pv Go.Pv.Sha
set_option maxRecDepth 100000
set_option maxHeartbeats 4000000
def FormedN (D : Nat) (st : q5e) (e : PEnd) (s : q5e) : Prop := ∃ d : Nat, d ≤ D ∧ e = .ret (.tuple [.int (d : Int), .bool true]) ∧ s = st
theorem k6j (n : Nat) (st : q5e) : PCalls P F.q1i [.agg (j9l n)] st (FormedN 0 st) := by
 refine H.q1i.view q5n rfl rfl ?_
 by_cases hn : n = 0
 ·subst hn
  repeat' (first 
   | (with_reducible refine Fresh.intro fun b hb => ?_) <;> (try simp -dsimp -implicitDefEqProofs [*] at hb)
   | (simp -dsimp -implicitDefEqProofs [*]))
  exact .drop q5p ⟨0, Nat.le_refl _, rfl, rfl⟩
 ·have hn' : ¬ (n : Int) = 0 := by omega
  repeat' (first 
   | (with_reducible refine Fresh.intro fun b hb => ?_) <;> (try simp -dsimp -implicitDefEqProofs [*] at hb)
   | (simp -dsimp -implicitDefEqProofs [*]))
  exact .drop q5p ⟨0, Nat.le_refl _, rfl, rfl⟩
theorem j1j (x : ByteArray) (st : q5e) : PCalls P F.q1i [.agg (z4m x)] st (FormedN 0 st) := by
 refine H.q1i.view q5n rfl rfl ?_
 by_cases hx : x = ⟨#[]⟩
 ·subst hx
  repeat' (first 
   | (with_reducible refine Fresh.intro fun b hb => ?_) <;> (try simp -dsimp -implicitDefEqProofs [*] at hb)
   | (simp -dsimp -implicitDefEqProofs [*]))
  exact .drop q5p ⟨0, Nat.le_refl _, rfl, rfl⟩
 ·repeat' (first 
   | (with_reducible refine Fresh.intro fun b hb => ?_) <;> (try simp -dsimp -implicitDefEqProofs [*] at hb)
   | (simp -dsimp -implicitDefEqProofs [*]))
  exact .drop q5p ⟨0, Nat.le_refl _, rfl, rfl⟩
theorem z2w (D : Nat) (l : List Wv) (hl0 : 0 < l.length) (hl : l.length ≤ 100) (hD : D ≤ 10) (st : q5e) (hf : ∀ v ∈ l, ∀ st, PCalls P F.q1i [.agg v.row] st (FormedN D st)) : PCalls P F.q1i [.agg (k09 (l.flatMap Wv.row) l.length)] st (FormedN (D + 1) st) := by
 refine H.q1i.view q5n rfl rfl ?_
 have h0' : ¬ (l.length : Int) = 0 := by omega
 repeat' (first 
  | (with_reducible refine Fresh.intro fun b hb => ?_) <;> (try simp -dsimp -implicitDefEqProofs [*] at hb)
  | (simp -dsimp -implicitDefEqProofs [*]))
 refine q5h (fun y : Nat × Nat => [(2, .int (y.2 : Nat)), (55, .list false (l.flatMap Wv.row) l.length), (56, .int l.length), (57, .int (y.1 : Nat))]) (fun _ => st) (fun y => y.1 ≤ l.length ∧ y.2 ≤ D) (fun y => l.length - y.1) (0, 0) ⟨by omega, by omega⟩ (by simp) q5p ?_
 rintro ⟨i, d⟩ ⟨hi, hd⟩
 simp only at hi hd
 by_cases hil : i < l.length
 ·have hv := hf l[i] (List.getElem_mem hil)
  have hs := q94 (enc := Wv.row) (k := 4) (fun _ => rfl) l i hil
  have hfl := q6s (enc := Wv.row) (k := 4) (fun _ => rfl) l
  have hwi := q5i (n := i) (by omega)
  generalize l[i] = v at *
  generalize hrows : l.flatMap Wv.row = rows at *
  repeat' (first 
   | (with_reducible refine Fresh.intro fun b hb => ?_) <;> (try simp -dsimp -implicitDefEqProofs [*] at hb)
   | (simp -dsimp -implicitDefEqProofs [*]))
  refine q51 (hv _) ?_
  rintro e s2 ⟨d2, hd2, rfl, rfl⟩
  rw [q7r]
  clear hv
  by_cases hdd : d < d2
  ·repeat' (simp -dsimp -implicitDefEqProofs [*])
   exact Next.intro (i + 1, d2) ⟨by simp only; omega, hd2⟩ (by simp only; omega) (by simp) q5p
  ·repeat' (simp -dsimp -implicitDefEqProofs [*])
   exact Next.intro (i + 1, d) ⟨by simp only; omega, hd⟩ (by simp only; omega) (by simp) q5p
 ·have e : i = l.length := by omega
  subst e
  have hwd := q5i (n := d) (by omega)
  repeat' (simp -dsimp -implicitDefEqProofs [*])
  exact .same ⟨d + 1, by omega, by simp, rfl⟩
open Go.Pv Go.Pv.Sha
set_option maxRecDepth 100000
set_option maxHeartbeats 4000000
theorem z0k (c0 c1 c2 c3 : PV) (D : Nat) (hD : D ≤ 16) (st : q5e) (hf : ∀ st, PCalls P F.q1i [.agg [c0, c1, c2, c3]] st (FormedN D st)) : Rets P F.q4z [.agg [c0, c1, c2, c3]] st (.int 0) := by
 refine H.q4z.pure q5n rfl rfl ?_
 repeat' (first 
  | (with_reducible refine Fresh.intro fun b hb => ?_) <;> (try simp -dsimp -implicitDefEqProofs [*] at hb)
  | (simp -dsimp -implicitDefEqProofs [*]))
 refine q51 (hf _) ?_
 rintro e s ⟨d, hd, rfl, rfl⟩
 rw [q7r]
 clear hf
 have h16 : ¬ (16 : Int) < d := by omega
 repeat' (simp -dsimp -implicitDefEqProofs [*])
theorem Frozen.mono {I I' : Imm} {b : Nat} {o : PObj} (h : Frozen I b o) (hle : I.le I') : Frozen I' b o := by
 obtain ⟨r, h1, h2⟩ := h
 exact ⟨r, hle _ _ h1, k1z hle h2⟩
theorem Sees.freeze2 {b c : Nat} {o x : PObj} {p q : PV} {st : q5e} (hn : q6x ((c, x) :: st) b) (hm : q6x st c) (hf : ∀ I, Frozen I b o → Frozen I c x → ∀ v, vrep I p v → vrep I q v) : Sees p ((b, o) :: (c, x) :: st) q st := ⟨fun I w v h1 h2 => by
 obtain ⟨I1, h3, h4, h5⟩ := h1.freeze hn
 obtain ⟨I2, h6, h7, h8⟩ := h4.freeze hm
 exact ⟨I2, Imm.le_trans h3 h6, h7, hf I2 (Frozen.mono h5 h6) h8 v (q7j h6 _ _ (q7j h3 _ _ h2))⟩⟩
theorem Frz.wtab {b : Nat} {o : PObj} {c d : PV} (h : Frz b o c d) : Frzs b o (wtab c) (wtab d) :=
 .cons (.refl _) (.cons (.refl _) (.cons (.refl _) (.cons (.func _ .nil (.cons h .nil)) .nil)))
theorem z1q (st : q5e) : PCalls P F.q4d [] st (fun e s => ∃ c, e = .ret (.iptr (wtab (z64 (wtab (z64 (wtab c))))) 0) ∧ s = st) := by
 refine H.q4d.view q5n rfl rfl ?_
 repeat' (first 
  | (with_reducible refine Fresh.intro fun b hb => ?_) <;> (try simp -dsimp -implicitDefEqProofs [*] at hb)
  | (simp -dsimp -implicitDefEqProofs [*]))
 revert b
 intro w hw
 revert b
 intro p hp hw
 have e1 : Frz p (.arr T.q5d (wtab (.ptr w 0))) (.ptr p 0) (.iptr (wtab (.ptr w 0)) 0) := .ptr _ _ 0 rfl
 have e2 : Frz w (.arr T.codecwriter [.ptr p 0]) (.ptr w 0) (.iptr [.ptr p 0] 0) := .ptr _ _ 0 rfl
 refine .sees (Sees.freeze2 (q := .iptr (wtab (z64 (wtab (z64 (wtab (.ptr w 0)))))) 0) hw hp fun I fw fp v h0 => ?_) (.same ⟨⟨_, rfl⟩, rfl⟩)
 have h1 := Frz.vrep fp e1 h0
 have h2 := Frz.vrep fw (.iptr 0 (Frz.wtab e2)) h1
 have h3 := Frz.vrep fp (.iptr 0 (Frz.wtab (.iptr 0 (.cons e1 .nil)))) h2
 have h4 := Frz.vrep fw (.iptr 0 (Frz.wtab (.iptr 0 (.cons (.iptr 0 (Frz.wtab e2)) .nil)))) h3
 exact Frz.vrep fp (.iptr 0 (Frz.wtab (.iptr 0 (.cons (.iptr 0 (Frz.wtab (.iptr 0 (.cons e1 .nil)))) .nil)))) h4
theorem z8e (l : List Wv) (hl0 : 0 < l.length) (hl : l.length ≤ 100) (D : Nat) (hD : D ≤ 10) (hok : ∀ c, ∀ v ∈ l, v.Ok 210000 (wtab (z64 (wtab c)))) (hf : ∀ v ∈ l, ∀ st, PCalls P F.q1i [.agg v.row] st (FormedN D st)) (st : q5e) :
  Rets P F.q4q [.agg (k09 (l.flatMap Wv.row) l.length)] st (.tuple [q5t false (3#8 :: (k08 l.length ++ l.flatMap Wv.B)), .int 0]) := by
 refine H.q4q.view q5n rfl rfl ?_
 have hc := fun st => z0k (.int 3) (.int 0) q7y (.list false (l.flatMap Wv.row) l.length) (D + 1) (by omega) st (fun st => z2w D l hl0 hl hD st hf)
 repeat' (first 
  | (with_reducible refine Fresh.intro fun b hb => ?_) <;> (try simp -dsimp -implicitDefEqProofs [*] at hb)
  | (with_reducible refine Rets.xcall (hc _) ?_)
  | (simp -dsimp -implicitDefEqProofs [-q5g, *]))
 clear hc
 refine DrawLate.by (Cls ((b, .arr T.apiValue (k09 (l.flatMap Wv.row) l.length)) :: st) []) (Cls.self _ _) ?_
 repeat' (simp -dsimp -implicitDefEqProofs [-q5g, *])
 refine q51 (z1q _) ?_
 rintro e s2 ⟨c, rfl, rfl⟩
 rw [q7r]
 refine ⟨Cls.self _ _, ?_⟩
 have hok' := hok c
 clear hok
 have htab : (wtab (z64 (wtab (z64 (wtab c)))))[3]? = some (.func (.func F.q22) [] [z64 (wtab (z64 (wtab c)))]) := rfl
 have kok : Hid (∀ v ∈ l, v.Ok 210000 (wtab (z64 (wtab c)))) := ⟨hok'⟩
 clear hok'
 generalize wtab (z64 (wtab c)) = tab at *
 generalize wtab (z64 tab) = tab3 at *
 repeat' (simp -dsimp -implicitDefEqProofs [-q5g, *])
 have hB := k2a l fun v hv => (kok.out v hv).B
 have hn := q7b (n := l.length) (by omega)
 refine q51 (k4r 0 (by omega) tab l hl (fun v hv => by simpa using kok.out v hv) none ((b, .arr T.apiValue (k09 (l.flatMap Wv.row) l.length)) :: st) trivial (by simp)) ?_
 rintro e s2 ⟨o, ho, hol, rfl, rfl⟩
 rw [q7r]
 simp only [k0b, List.nil_append] at hol
 refine ⟨q9v ho (Cls.self _ _), ?_⟩
 have kl : Hid (q55 o = 3#8 :: (k08 l.length ++ l.flatMap Wv.B)) := ⟨hol⟩
 clear hol kok htab hf
 repeat' (simp -dsimp -implicitDefEqProofs [-q5g, *])
 exact RetView.accP2 (row := q5f) rfl ho (.drop q5p ⟨by rw [kl.out], rfl⟩)
open Go.Pv Go.Pv.Sha
set_option maxRecDepth 100000
set_option maxHeartbeats 4000000
theorem k2t {α : Type} {row : List α → List PV} {k : Nat} (hrl : ∀ l, (row l).length = l.length * k) (hra : ∀ l m, row (l ++ m) = row l ++ row m) {T : TypeId} {bytes : Nat} {st : q5e} {K : PV → q5e → Prop}
  (ys xs : List α) {new : List PV} {m n : Nat} (hn : ys.length = n) (hnew : row xs = new) (hm : xs.length = m) (hm0 : 0 < m) (hsz : (n + m) * bytes ≤ 140737488355328)
  (h : ∀ o' : Option (Acc α), accOk row k st o' → q55 o' = ys ++ xs → K (k1t o') (q60 T st o')) : q6r T bytes k (.list true (row ys) n) new m st K := by
 have h1 : q6r T bytes k .nil (row ys ++ new) (n + m) st K := q8i hrl (ys ++ xs) (by rw [hra, hnew]) (by rw [List.length_append, hn, hm]) (by omega) (by simpa using hsz) fun a' ha' hl' hb' => h (some a') ⟨ha', hb'⟩ (by simpa using hl')
 rw [k46] at h1
 rw [q5g]
 exact ⟨fun h => absurd h (by omega), fun _ => ⟨rfl, by rw [hrl, hn], h1.2 (by omega)⟩⟩
theorem k89 (n : Nat) : 0 < (k08 n).length := by
 by_cases h : n < 128
 ·rw [z0j h]; simp
 ·rw [z4k h]; simp
theorem k7j (u : Nat) : u < 18446744073709551616 → ∀ st, Rets P F.q1r [.val (.int .u64 (u : Int))] st (q5t false (k08 u)) := by
 induction u using Nat.strongRecOn with
 | ind u ih =>
  intro hu st
  refine H.q1r.view q5n rfl rfl ?_
  have hb := k6i u
  by_cases h128 : u < 128
  ·have h : (u : Int) < 128 := by omega
   rw [z0j h128]
   generalize BitVec.ofNat 8 u = x at *
   repeat' (first 
    | (with_reducible refine Lit.imm ?_)
    | (simp -dsimp -implicitDefEqProofs [*]))
   exact .loose1 (.same ⟨rfl, rfl⟩)
  ·have h : ¬ (u : Int) < 128 := by omega
   have ih' := fun st => ih (u / 128) (by omega) (by omega) st
   clear ih hb
   obtain ⟨v, hv⟩ : ∃ v, u / 128 = v := ⟨_, rfl⟩
   obtain ⟨r, hr⟩ : ∃ r, u % 128 = r := ⟨_, rfl⟩
   have hr1 : (u : Int) % 128 = r := by omega
   have hr2 : (u : Int).tmod 128 = r := by rw [Int.tmod_eq_emod_of_nonneg (by omega)]; omega
   have hv1 : (u : Int) / 128 = v := by omega
   have w1 : IntKind.u64.wrap (v : Int) = v := q77 (by omega) (by omega)
   have w2 : IntKind.u64.wrap ((r : Int) + 128) = (r : Int) + 128 := q77 (by omega) (by omega)
   have w3 : IntKind.u64.wrap (r : Int) = r := q77 (by omega) (by omega)
   have hb : PV.val (.int .u8 (IntKind.u8.wrap ((r : Int) + 128))) = bv (BitVec.ofNat 8 (r + 128)) := k6i (r + 128)
   rw [z4k h128, hr, hv]
   rw [hv] at ih'
   have hnl := q7b (n := v) (by omega)
   have hnp := k89 v
   clear hv hr
   generalize BitVec.ofNat 8 (r + 128) = x at *
   generalize k08 v = E at *
   repeat' (first 
    | (with_reducible refine Rets.xcall (ih' _) ?_)
    | (with_reducible refine Lit.imm ?_)
    | (simp -dsimp -implicitDefEqProofs [-q5g, *]))
   refine k2t (bytes := 1) (n := 1) q50 q5m [x] E rfl rfl rfl hnp (by omega) fun o ho hol => ?_
   have kl : Hid (q55 o = x :: E) := ⟨hol⟩
   clear hol
   repeat' (simp -dsimp -implicitDefEqProofs [-q5g, *])
   exact RetView.accP1 rfl ho (.same ⟨by rw [kl.out], rfl⟩)
theorem z8f (n : Nat) (hn : n < 1000000000000) (st : q5e) : Rets P F.q3e [.int (n : Int)] st (.val (.int .u64 ((2 * n : Nat) : Int))) := by
 refine H.q3e.pure q5n rfl rfl ?_
 have h1 : IntKind.u64.wrap (n : Int) = n := q77 (by omega) (by omega)
 have h2 : IntKind.u64.wrap (2 * (n : Int)) = 2 * (n : Int) := q77 (by omega) (by omega)
 repeat' (simp -dsimp -implicitDefEqProofs [*])
theorem k6k (n : Nat) (hn : n < 1000000000000) (st : q5e) : Rets P F.q0l [.agg (j9l n)] st (q5t false (1#8 :: k08 (2 * n))) := by
 refine H.q0l.view q5n rfl rfl ?_
 have hu := fun st => z8f n hn st
 have hm := fun st => k7j (2 * n) (by omega) st
 have hnl := q7b (n := 2 * n) (by omega)
 have hnp := k89 (2 * n)
 have e : ((2 * n : Nat) : Int) = 2 * (n : Int) := by omega
 rw [e] at hu hm
 generalize k08 (2 * n) = E at *
 repeat' (first 
  | (with_reducible refine Fresh.intro fun b hb => ?_) <;> (try simp -dsimp -implicitDefEqProofs [*] at hb)
  | (with_reducible refine Rets.xcall (hu _) ?_)
  | (with_reducible refine Rets.xcall (hm _) ?_)
  | (with_reducible refine Lit.imm ?_)
  | (simp -dsimp -implicitDefEqProofs [-q5g, *]))
 refine k2t (bytes := 1) (n := 1) q50 q5m [1#8] E rfl rfl rfl hnp (by omega) fun o ho hol => ?_
 have kl : Hid (q55 o = 1#8 :: E) := ⟨hol⟩
 clear hol
 repeat' (simp -dsimp -implicitDefEqProofs [-q5g, *])
 exact RetView.accP1 rfl ho (.drop q5p ⟨by rw [kl.out], rfl⟩)
theorem j1k (x : ByteArray) (hx : x.size ≤ 1000) (st : q5e) : Rets P F.q0l [.agg (z4m x)] st (q5t false (2#8 :: (k08 x.size ++ q8r x))) := by
 refine H.q0l.view q5n rfl rfl ?_
 have hm := fun st => k7j x.size (by omega) st
 have hsz : IntKind.u64.wrap (x.size : Int) = (x.size : Int) := q77 (by omega) (by omega)
 have hnl := q7b (n := x.size) (by omega)
 have hnp := k89 x.size
 generalize k08 x.size = E at *
 repeat' (first 
  | (with_reducible refine Fresh.intro fun b hb => ?_) <;> (try simp -dsimp -implicitDefEqProofs [*] at hb)
  | (with_reducible refine Rets.xcall (hm _) ?_)
  | (with_reducible refine DrawLate.intro [] ?_)
  | (simp -dsimp -implicitDefEqProofs [-q5g, *]))
 refine k2t (bytes := 1) (n := 1) q50 q5m [2#8] E rfl rfl rfl hnp (by omega) fun o ho hol => ?_
 have kl : Hid (q55 o = 2#8 :: E) := ⟨hol⟩
 clear hol
 refine ⟨q9v ho (Cls.self _ _), ?_⟩
 repeat' (simp -dsimp -implicitDefEqProofs [-q5g, *])
 refine q6w q50 q5m o ho (q8r x) (k2r x).symm (k1n x) (by rw [kl.out]; simp; omega) fun o3 ho3 hl3 => ?_
 have kl3 : Hid (q55 o3 = 2#8 :: (E ++ q8r x)) := ⟨by rw [hl3, kl.out]; simp⟩
 clear hl3 kl
 refine ⟨q9v ho3 (Cls.self _ _), ?_⟩
 repeat' (simp -dsimp -implicitDefEqProofs [-q5g, *])
 exact RetView.accP1 rfl ho3 (.drop q5p ⟨by rw [kl3.out], rfl⟩)
theorem z2x (l : List Wv) (hl : l.length ≤ 100) (hB : ∀ v ∈ l, v.B.length ≤ 2000) (hok : ∀ v ∈ l, ∀ st, Rets P F.q0l [.agg v.row] st (q5t false v.B)) (st : q5e) : Rets P F.q0l [.agg (k09 (l.flatMap Wv.row) l.length)] st (q5t false (3#8 :: (k08 l.length ++ l.flatMap Wv.B))) := by
 refine H.q0l.view q5n rfl rfl ?_
 have hm := fun st => k7j l.length (by omega) st
 have hsz : IntKind.u64.wrap (l.length : Int) = (l.length : Int) := q77 (by omega) (by omega)
 have hnl := q7b (n := l.length) (by omega)
 have hnp := k89 l.length
 generalize k08 l.length = E at *
 repeat' (first 
  | (with_reducible refine Fresh.intro fun b hb => ?_) <;> (try simp -dsimp -implicitDefEqProofs [*] at hb)
  | (with_reducible refine Rets.xcall (hm _) ?_)
  | (with_reducible refine Lit.imm ?_)
  | (simp -dsimp -implicitDefEqProofs [-q5g, *]))
 refine k2t (bytes := 1) (n := 1) q50 q5m [3#8] E rfl rfl rfl hnp (by omega) fun o ho hol => ?_
 have kl : Hid (q55 o = 3#8 :: E) := ⟨hol⟩
 clear hol hm hsz
 repeat' (simp -dsimp -implicitDefEqProofs [-q5g, *])
 have hgb : q5y ((b, .arr T.apiValue (k09 (l.flatMap Wv.row) l.length)) :: st) b = some (.arr T.apiValue (k09 (l.flatMap Wv.row) l.length)) := by simp
 have hns : q6x st b := ‹_›
 have hle : ∀ q : Option (Acc (BitVec 8)), accOk q5f 1 ((b, .arr T.apiValue (k09 (l.flatMap Wv.row) l.length)) :: st) q → RetView .ret (k1t q) (q60 T.uint8 ((b, .arr T.apiValue (k09 (l.flatMap Wv.row) l.length)) :: st) q) (fun e s => e = .ret (q5t false (q55 q)) ∧ s = st) := fun q hq => RetView.accP1 rfl hq (.drop (.fresh hns) ⟨rfl, rfl⟩)
 have kle : Hid (∀ q : Option (Acc (BitVec 8)), accOk q5f 1 ((b, .arr T.apiValue (k09 (l.flatMap Wv.row) l.length)) :: st) q → RetView .ret (k1t q) (q60 T.uint8 ((b, .arr T.apiValue (k09 (l.flatMap Wv.row) l.length)) :: st) q) (fun e s => e = .ret (q5t false (q55 q)) ∧ s = st)) := ⟨hle⟩
 clear hle hns
 have hlrow : ∃ rows, l.flatMap Wv.row = rows ∧ rows.length = l.length * 4 := ⟨_, rfl, q6s (enc := Wv.row) (k := 4) (fun _ => rfl) l⟩
 obtain ⟨rows, hrows, hfl⟩ := hlrow
 rw [hrows] at hgb kle ho
 rw [hrows]
 generalize hst1 : (b, PObj.arr T.apiValue (k09 rows l.length)) :: st = st1 at *
 have kok : Hid (∀ v ∈ l, ∀ st, Rets P F.q0l [.agg v.row] st (q5t false v.B)) := ⟨hok⟩
 have kB : Hid (∀ v ∈ l, v.B.length ≤ 2000) := ⟨hB⟩
 have krows : Hid (l.flatMap Wv.row = rows) := ⟨hrows⟩
 clear hok hB hst1 hrows
 refine q5h (fun y : Nat × Option (Acc (BitVec 8)) => [(1, .ptr b 0), (3, k1t y.2), (4, .int (y.1 : Nat))]) (fun y => q60 T.uint8 st1 y.2) (fun y => y.1 ≤ l.length ∧ accOk q5f 1 st1 y.2 ∧ q55 y.2 = 3#8 :: (E ++ (l.take y.1).flatMap Wv.B)) (fun y => l.length - y.1) (0, o) ⟨by omega, ho, by rw [kl.out]; simp⟩ (by simp) (.refl _) ?_
 clear kl ho
 clear o
 rintro ⟨i, q⟩ ⟨hi, hq, hql⟩
 simp only at hi hq hql
 have kl : Hid (q55 q = 3#8 :: (E ++ (l.take i).flatMap Wv.B)) := ⟨hql⟩
 clear hql
 have hgq := k88 (T := T.uint8) hq hgb
 by_cases hil : i < l.length
 ·have hv := kok.out l[i] (List.getElem_mem hil)
  have hs := q94 (enc := Wv.row) (k := 4) (fun _ => rfl) l i hil
  rw [krows.out] at hs
  have kT : Hid ((l.take (i + 1)).flatMap Wv.B = (l.take i).flatMap Wv.B ++ l[i].B) := ⟨by rw [List.take_succ_eq_append_getElem hil, List.flatMap_append, List.flatMap_cons, List.flatMap_nil, List.append_nil]⟩
  have hwi := q5i (n := i) (by omega)
  have hb2 := kB.out l[i] (List.getElem_mem hil)
  have hlq : (q55 q).length ≤ 1000000 := by
   rw [kl.out]
   have h1 := k2a (l.take i) fun v hv => kB.out v (List.mem_of_mem_take hv)
   simp only [List.length_append, List.length_cons, List.length_take] at h1 ⊢
   omega
  generalize l[i] = v at *
  repeat' (first 
   | (with_reducible refine Rets.xcall (hv _) ?_)
   | (simp -dsimp -implicitDefEqProofs [-q5g, *]))
  refine q6w q50 q5m q hq v.B rfl rfl (by omega) fun q2 hq2 hl2 => ?_
  have kl2 : Hid (q55 q2 = 3#8 :: (E ++ (l.take (i + 1)).flatMap Wv.B)) := ⟨by rw [hl2, kl.out, kT.out]; simp⟩
  clear hl2 kl
  repeat' (simp -dsimp -implicitDefEqProofs [-q5g, *])
  exact Next.intro (i + 1, q2) ⟨by simp only; omega, hq2, kl2.out⟩ (by simp only; omega) (by simp) q5p
 ·have e : i = l.length := by omega
  subst e
  have kl2 : Hid (q55 q = 3#8 :: (E ++ l.flatMap Wv.B)) := ⟨by rw [kl.out, List.take_length]⟩
  have hend := kle.out q hq
  clear kl
  rw [kl2.out] at hend
  repeat' (simp -dsimp -implicitDefEqProofs [-q5g, *])
open Go.Pv Go.Pv.Sha
set_option maxRecDepth 100000
set_option maxHeartbeats 4000000
def DepthN (D : Nat) (st : q5e) (e : PEnd) (s : q5e) : Prop := ∃ d : Nat, d ≤ D ∧ e = .ret (.int (d : Int)) ∧ s = st
theorem k1o (n : Nat) (st : q5e) : Rets P F.q0p [.agg (j9l n)] st (.bool true) := by
 refine H.q0p.pure q5n rfl rfl ?_
 repeat' (first 
  | (with_reducible refine Fresh.intro fun b hb => ?_) <;> (try simp -dsimp -implicitDefEqProofs [*] at hb)
  | (simp -dsimp -implicitDefEqProofs [*]))
theorem z4o (x : ByteArray) (st : q5e) : Rets P F.q0p [.agg (z4m x)] st (.bool true) := by
 refine H.q0p.pure q5n rfl rfl ?_
 repeat' (first 
  | (with_reducible refine Fresh.intro fun b hb => ?_) <;> (try simp -dsimp -implicitDefEqProofs [*] at hb)
  | (simp -dsimp -implicitDefEqProofs [*]))
theorem k2u (n : Nat) (st : q5e) : PCalls P F.q0u [.agg (j9l n)] st (DepthN 0 st) := by
 refine H.q0u.view q5n rfl rfl ?_
 repeat' (first 
  | (with_reducible refine Fresh.intro fun b hb => ?_) <;> (try simp -dsimp -implicitDefEqProofs [*] at hb)
  | (simp -dsimp -implicitDefEqProofs [*]))
 exact .drop q5p ⟨0, Nat.le_refl _, rfl, rfl⟩
theorem z6h (x : ByteArray) (st : q5e) : PCalls P F.q0u [.agg (z4m x)] st (DepthN 0 st) := by
 refine H.q0u.view q5n rfl rfl ?_
 repeat' (first 
  | (with_reducible refine Fresh.intro fun b hb => ?_) <;> (try simp -dsimp -implicitDefEqProofs [*] at hb)
  | (simp -dsimp -implicitDefEqProofs [*]))
 exact .drop q5p ⟨0, Nat.le_refl _, rfl, rfl⟩
theorem k6l (l : List Wv) (hl : l.length ≤ 100) (st : q5e) (hf : ∀ v ∈ l, ∀ st, Rets P F.q0p [.agg v.row] st (.bool true)) : Rets P F.q0p [.agg (k09 (l.flatMap Wv.row) l.length)] st (.bool true) := by
 refine H.q0p.pure q5n rfl rfl ?_
 have hfl := q6s (enc := Wv.row) (k := 4) (fun _ => rfl) l
 have hs := fun i h => q94 (enc := Wv.row) (k := 4) (fun _ => rfl) l i h
 generalize l.flatMap Wv.row = rows at *
 repeat' (first 
  | (with_reducible refine Fresh.intro fun b hb => ?_) <;> (try simp -dsimp -implicitDefEqProofs [*] at hb)
  | (simp -dsimp -implicitDefEqProofs [*]))
 refine q5h (fun i : Nat => [(1, .ptr b 0), (3, .int (i : Nat))]) (fun _ => (b, .arr T.apiValue (k09 rows l.length)) :: st) (fun i => i ≤ l.length) (fun i => l.length - i) 0 (by omega) (by simp) (.refl _) ?_
 intro i hi
 by_cases hil : i < l.length
 ·have hv := hf l[i] (List.getElem_mem hil)
  have hs' := hs i hil
  clear hs
  have hwi := q5i (n := i) (by omega)
  generalize l[i] = v at *
  repeat' (first 
   | (with_reducible refine Rets.xcall (hv _) ?_)
   | (simp -dsimp -implicitDefEqProofs [*]))
  exact Next.intro (i + 1) (by omega) (by omega) (by simp) q5p
 ·have e : i = l.length := by omega
  subst e
  repeat' (simp -dsimp -implicitDefEqProofs [*])
theorem k8i (D : Nat) (hD : D ≤ 10) (l : List Wv) (hl : l.length ≤ 100) (st : q5e) (hf : ∀ v ∈ l, ∀ st, PCalls P F.q0u [.agg v.row] st (DepthN D st)) :
  PCalls P F.q0u [.agg (k09 (l.flatMap Wv.row) l.length)] st (DepthN (D + 1) st) := by
 refine H.q0u.view q5n rfl rfl ?_
 have hfl := q6s (enc := Wv.row) (k := 4) (fun _ => rfl) l
 have hs := fun i h => q94 (enc := Wv.row) (k := 4) (fun _ => rfl) l i h
 generalize l.flatMap Wv.row = rows at *
 repeat' (first 
  | (with_reducible refine Fresh.intro fun b hb => ?_) <;> (try simp -dsimp -implicitDefEqProofs [*] at hb)
  | (simp -dsimp -implicitDefEqProofs [*]))
 refine q5h (fun y : Nat × Nat => [(1, .ptr b 0), (3, .int (y.2 : Nat)), (4, .int (y.1 : Nat))]) (fun _ => (b, .arr T.apiValue (k09 rows l.length)) :: st) (fun y => y.1 ≤ l.length ∧ y.2 ≤ D) (fun y => l.length - y.1) (0, 0) ⟨by omega, by omega⟩ (by simp) (.refl _) ?_
 rintro ⟨i, d⟩ ⟨hi, hd⟩
 simp only at hi hd
 by_cases hil : i < l.length
 ·have hv := hf l[i] (List.getElem_mem hil)
  have hs' := hs i hil
  clear hs hf
  have hwi := q5i (n := i) (by omega)
  generalize l[i] = v at *
  repeat' (simp -dsimp -implicitDefEqProofs [*])
  refine q51 (hv _) ?_
  rintro e s2 ⟨d2, hd2, rfl, rfl⟩
  rw [q7r]
  clear hv
  by_cases hdd : d < d2
  ·repeat' (simp -dsimp -implicitDefEqProofs [*])
   exact Next.intro (i + 1, d2) ⟨by simp only; omega, hd2⟩ (by simp only; omega) (by simp) q5p
  ·repeat' (simp -dsimp -implicitDefEqProofs [*])
   exact Next.intro (i + 1, d) ⟨by simp only; omega, hd⟩ (by simp only; omega) (by simp) q5p
 ·have e : i = l.length := by omega
  subst e
  have hwd := q5i (n := d) (by omega)
  repeat' (simp -dsimp -implicitDefEqProofs [*])
  exact .drop q5p ⟨d + 1, by omega, by simp, rfl⟩
open Go.Pv Go.Pv.Sha
set_option maxRecDepth 100000
set_option maxHeartbeats 4000000
def k0h (n : Nat) : Wv := ⟨1, .int (n : Int), q7y, .nil, 1#8 :: k08 (2 * n)⟩
def j1l (x : ByteArray) : Wv := ⟨2, .int 0, .str x, .nil, 2#8 :: (k08 x.size ++ q8r x)⟩
def z6i (l : List Wv) : Wv := ⟨3, .int 0, q7y, .list false (l.flatMap Wv.row) l.length, 3#8 :: (k08 l.length ++ l.flatMap Wv.B)⟩
abbrev BIG : Nat := 1000000000000
theorem k0s (n : Nat) (hn : n < BIG) : (k0h n).B.length ≤ 11 := by
 have := q7b (n := 2 * n) (by unfold BIG at hn; omega)
 show (1#8 :: k08 (2 * n)).length ≤ 11
 rw [List.length_cons]; omega
theorem k5d (M n : Nat) (hM : M ≤ 1000000) (hn : n < BIG) (c : PV) : (k0h n).Ok M (wtab c) := ⟨(by decide : 1 < 4), by have := k0s n hn; omega, _, _, rfl, fun o st ho hol => z4n n hn o st ho (by omega)⟩
theorem k9a (M : Nat) (hM : M ≤ 1000000) (x : ByteArray) (hx : x.size ≤ 1000) (c : PV) : (j1l x).Ok M (wtab c) := ⟨(by decide : 2 < 4), by
 have := q7b (n := x.size) (by omega)
 show (2#8 :: (k08 x.size ++ q8r x)).length ≤ 2000
 rw [List.length_cons, List.length_append, k1n]; omega, _, _, rfl, fun o st ho hol => z1p x hx o st ho (by omega)⟩
theorem ints_flat (l : List Nat) (hl : ∀ n ∈ l, n < BIG) : ((l.map k0h).flatMap Wv.B).length ≤ l.length * 11 := by
 induction l with
 | nil => simp
 | cons n l ih =>
  have h1 := ih fun m hm => hl m (List.mem_cons_of_mem _ hm)
  have h2 := k0s n (hl n List.mem_cons_self)
  simp only [List.map_cons, List.flatMap_cons, List.length_append, List.length_cons]
  omega
abbrev k25 (l : List Nat) : Wv := z6i (l.map k0h)
theorem k3v (l : List Nat) (h100 : l.length ≤ 100) (hl : ∀ n ∈ l, n < BIG) : (k25 l).B.length ≤ 2000 := by
 have h1 := ints_flat l hl
 have h2 := q7b (n := l.length) (by omega)
 show (3#8 :: (k08 (l.map k0h).length ++ (l.map k0h).flatMap Wv.B)).length ≤ 2000
 rw [List.length_map, List.length_cons, List.length_append]
 omega
theorem k9b (M : Nat) (hM : M ≤ 500000) (l : List Nat) (h100 : l.length ≤ 100) (hl : ∀ n ∈ l, n < BIG) (c : PV) : (k25 l).Ok M (wtab (z64 (wtab c))) :=
 ⟨(by decide : 3 < 4), k3v l h100 hl, _, _, rfl, fun o st ho hol => k4r M hM (wtab c) (l.map k0h) (by simpa using h100) (fun v hv => by
  obtain ⟨n, hn, rfl⟩ := List.mem_map.1 hv
  exact k5d _ n (by omega) (hl n hn) c) o st ho hol⟩
def parts (r e j : Nat) (m k : List Nat) (x : ByteArray) : List Wv := [k0h r, k0h e, k0h j, k25 m, k25 k, j1l x]
def k8v (r e j : Nat) (m k : List Nat) (x : ByteArray) : List (BitVec 8) := (z6i (parts r e j m k x)).B
structure Fit (r e j : Nat) (m k : List Nat) (x : ByteArray) : Prop where
 hr : r < BIG
 he : e < BIG
 hj : j < BIG
 hm : ∀ n ∈ m, n < BIG
 hk : ∀ n ∈ k, n < BIG
 m0 : 0 < m.length
 k0 : 0 < k.length
 m1 : m.length ≤ 100
 k1 : k.length ≤ 100
 hx : x.size ≤ 1000
theorem k0f {r e j : Nat} {m k : List Nat} {x : ByteArray} {Q : Wv → Prop} (h1 : Q (k0h r)) (h2 : Q (k0h e)) (h3 : Q (k0h j)) (h4 : Q (k25 m)) (h5 : Q (k25 k)) (h6 : Q (j1l x)) : ∀ v ∈ parts r e j m k x, Q v := by
 intro v hv
 simp only [parts, List.mem_cons, List.not_mem_nil, or_false] at hv
 rcases hv with rfl | rfl | rfl | rfl | rfl | rfl <;> assumption
theorem j4k (l : List Nat) (h0 : 0 < l.length) (h1 : l.length ≤ 100) (st : q5e) : PCalls P F.q1i [.agg (k25 l).row] st (FormedN 1 st) :=
 z2w 0 (l.map k0h) (by simpa using h0) (by simpa using h1) (by omega) st fun v hv st => by
  obtain ⟨n, hn, rfl⟩ := List.mem_map.1 hv
  exact k6j n st
theorem FormedN.le {D E : Nat} (h : D ≤ E) {f : FuncId} {a : List PV} {st : q5e} (k : PCalls P f a st (FormedN D st)) : PCalls P f a st (FormedN E st) := k.mono fun _ _ ⟨d, h1, h2, h3⟩ => ⟨d, by omega, h2, h3⟩
theorem y1g {r e j : Nat} {m k : List Nat} {x : ByteArray} (h : Fit r e j m k x) (st : q5e) : Rets P F.q4q [.agg (z6i (parts r e j m k x)).row] st (.tuple [q5t false (k8v r e j m k x), .int 0]) :=
 z8e (parts r e j m k x) (by simp [parts]) (by simp [parts]) 1 (by omega)
  (fun c => k0f (k5d _ _ (by omega) h.hr _) (k5d _ _ (by omega) h.he _) (k5d _ _ (by omega) h.hj _) (k9b _ (by omega) m h.m1 h.hm c) (k9b _ (by omega) k h.k1 h.hk c) (k9a _ (by omega) x h.hx _))
  (fun v hv => (k0f (Q := fun v => ∀ st, PCalls P F.q1i [.agg v.row] st (FormedN 1 st)) (fun st => FormedN.le (by omega) (k6j r st)) (fun st => FormedN.le (by omega) (k6j e st)) (fun st => FormedN.le (by omega) (k6j j st)) (j4k m h.m0 h.m1) (j4k k h.k0 h.k1) (fun st => FormedN.le (by omega) (j1j x st))) v hv) st
theorem z2y (l : List Nat) (h1 : l.length ≤ 100) (hl : ∀ n ∈ l, n < BIG) (st : q5e) : Rets P F.q0l [.agg (k25 l).row] st (q5t false (k25 l).B) :=
 z2x (l.map k0h) (by simpa using h1) (fun v hv => by
  obtain ⟨n, hn, rfl⟩ := List.mem_map.1 hv
  have := k0s n (hl n hn); omega) (fun v hv st => by
  obtain ⟨n, hn, rfl⟩ := List.mem_map.1 hv
  exact k6k n (hl n hn) st) st
theorem k6m (l : List Nat) (h1 : l.length ≤ 100) (st : q5e) : Rets P F.q0p [.agg (k25 l).row] st (.bool true) :=
 k6l (l.map k0h) (by simpa using h1) st fun v hv st => by
  obtain ⟨n, hn, rfl⟩ := List.mem_map.1 hv
  exact k1o n st
theorem DepthN.le {D E : Nat} (h : D ≤ E) {f : FuncId} {a : List PV} {st : q5e} (k : PCalls P f a st (DepthN D st)) : PCalls P f a st (DepthN E st) := k.mono fun _ _ ⟨d, h1, h2, h3⟩ => ⟨d, by omega, h2, h3⟩
theorem k8j (l : List Nat) (h1 : l.length ≤ 100) (st : q5e) : PCalls P F.q0u [.agg (k25 l).row] st (DepthN 1 st) :=
 k8i 0 (by omega) (l.map k0h) (by simpa using h1) st fun v hv st => by
  obtain ⟨n, hn, rfl⟩ := List.mem_map.1 hv
  exact k2u n st
theorem z4p (c0 c1 c2 c3 : PV) (D : Nat) (hD : D ≤ 16) (st : q5e) (hf : ∀ st, Rets P F.q0p [.agg [c0, c1, c2, c3]] st (.bool true)) (hd : ∀ st, PCalls P F.q0u [.agg [c0, c1, c2, c3]] st (DepthN D st)) : Rets P F.q3h [.agg [c0, c1, c2, c3]] st (.int 0) := by
 refine H.q3h.pure q5n rfl rfl ?_
 repeat' (first 
  | (with_reducible refine Fresh.intro fun b hb => ?_) <;> (try simp -dsimp -implicitDefEqProofs [*] at hb)
  | (with_reducible refine Rets.xcall (hf _) ?_)
  | (simp -dsimp -implicitDefEqProofs [*]))
 clear hf
 refine q51 (hd _) ?_
 rintro e s ⟨d, hd, rfl, rfl⟩
 rw [q7r]
 have h16 : ¬ (16 : Int) < d := by omega
 repeat' (simp -dsimp -implicitDefEqProofs [*])
theorem z1r (c0 c1 c2 c3 : PV) (B : List (BitVec 8)) (st : q5e) (hc : ∀ st, Rets P F.q3h [.agg [c0, c1, c2, c3]] st (.int 0)) (he : ∀ st, Rets P F.q0l [.agg [c0, c1, c2, c3]] st (q5t false B)) :
  Rets P F.q3c [.agg [c0, c1, c2, c3]] st (.tuple [q5t false B, .int 0]) := by
 refine H.q3c.pure q5n rfl rfl ?_
 repeat' (first 
  | (with_reducible refine Fresh.intro fun b hb => ?_) <;> (try simp -dsimp -implicitDefEqProofs [*] at hb)
  | (with_reducible refine Rets.xcall (hc _) ?_)
  | (with_reducible refine Rets.xcall (he _) ?_)
  | (simp -dsimp -implicitDefEqProofs [*]))
theorem j1m {r e j : Nat} {m k : List Nat} {x : ByteArray} (h : Fit r e j m k x) (st : q5e) : Rets P F.q3c [.agg (z6i (parts r e j m k x)).row] st (.tuple [q5t false (k8v r e j m k x), .int 0]) := by
 have hB : ∀ v ∈ parts r e j m k x, v.B.length ≤ 2000 := fun v hv => (k0f (Q := fun v => v.Ok 0 (wtab (z64 (wtab .nil)))) (k5d _ _ (by omega) h.hr _) (k5d _ _ (by omega) h.he _) (k5d _ _ (by omega) h.hj _) (k9b _ (by omega) m h.m1 h.hm .nil) (k9b _ (by omega) k h.k1 h.hk .nil) (k9a _ (by omega) x h.hx _) v hv).B
 refine z1r _ _ _ _ _ st (fun st => z4p _ _ _ _ 2 (by omega) st (fun st => ?_) (fun st => ?_)) (fun st => ?_)
 ·exact k6l (parts r e j m k x) (by simp [parts]) st (k0f (Q := fun v => ∀ st, Rets P F.q0p [.agg v.row] st (.bool true)) (k1o r) (k1o e) (k1o j) (k6m m h.m1) (k6m k h.k1) (z4o x))
 ·exact k8i 1 (by omega) (parts r e j m k x) (by simp [parts]) st (k0f (Q := fun v => ∀ st, PCalls P F.q0u [.agg v.row] st (DepthN 1 st)) (fun st => DepthN.le (by omega) (k2u r st)) (fun st => DepthN.le (by omega) (k2u e st)) (fun st => DepthN.le (by omega) (k2u j st)) (k8j m h.m1) (k8j k h.k1) (fun st => DepthN.le (by omega) (z6h x st)))
 ·exact z2x (parts r e j m k x) (by simp [parts]) hB (k0f (Q := fun v => ∀ st, Rets P F.q0l [.agg v.row] st (q5t false v.B)) (k6k r h.hr) (k6k e h.he) (k6k j h.hj) (z2y m h.m1 h.hm) (z2y k h.k1 h.hk) (j1k x h.hx)) st
end Go.Proofs.YtnooplpbpfiapaaGreatDoor
