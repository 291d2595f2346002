/- Encodings by the program: values that are well-formed. -/
import Derived.Test.YtnooplpbpfiapaaGreatDoorS36G
namespace Go.Proofs.YtnooplpbpfiapaaGreatDoor
open Go.Pv Go.Pv.Sha
set_option maxRecDepth 100000
set_option maxHeartbeats 4000000
def FormedN (D : Nat) (st : q5d) (e : PEnd) (s : q5d) : Prop := ∃ d : Nat, d ≤ D ∧ e = .ret (.tuple [.int (d : Int), .bool true]) ∧ s = st
theorem k57 (n : Nat) (st : q5d) : PCalls P F.q1f [.agg (j8g n)] st (FormedN 0 st) := by
 refine H.q1f.view q5m rfl rfl ?_
 by_cases hn : n = 0
 ·subst hn
  repeat' (first 
   | (with_reducible refine Fresh.intro fun b hb => ?_) <;> (try simp -dsimp -implicitDefEqProofs [*] at hb)
   | (simp -dsimp -implicitDefEqProofs [*]))
  exact .drop q5q ⟨0, Nat.le_refl _, rfl, rfl⟩
 ·have hn' : ¬ (n : Int) = 0 := by omega
  repeat' (first 
   | (with_reducible refine Fresh.intro fun b hb => ?_) <;> (try simp -dsimp -implicitDefEqProofs [*] at hb)
   | (simp -dsimp -implicitDefEqProofs [*]))
  exact .drop q5q ⟨0, Nat.le_refl _, rfl, rfl⟩
theorem z97 (x : ByteArray) (st : q5d) : PCalls P F.q1f [.agg (z3p x)] st (FormedN 0 st) := by
 refine H.q1f.view q5m rfl rfl ?_
 by_cases hx : x = ⟨#[]⟩
 ·subst hx
  repeat' (first 
   | (with_reducible refine Fresh.intro fun b hb => ?_) <;> (try simp -dsimp -implicitDefEqProofs [*] at hb)
   | (simp -dsimp -implicitDefEqProofs [*]))
  exact .drop q5q ⟨0, Nat.le_refl _, rfl, rfl⟩
 ·repeat' (first 
   | (with_reducible refine Fresh.intro fun b hb => ?_) <;> (try simp -dsimp -implicitDefEqProofs [*] at hb)
   | (simp -dsimp -implicitDefEqProofs [*]))
  exact .drop q5q ⟨0, Nat.le_refl _, rfl, rfl⟩
theorem z19 (D : Nat) (l : List Wv) (hl0 : 0 < l.length) (hl : l.length ≤ 100) (hD : D ≤ 10) (st : q5d) (hf : ∀ v ∈ l, ∀ st, PCalls P F.q1f [.agg v.row] st (FormedN D st)) : PCalls P F.q1f [.agg (k0x (l.flatMap Wv.row) l.length)] st (FormedN (D + 1) st) := by
 refine H.q1f.view q5m rfl rfl ?_
 have h0' : ¬ (l.length : Int) = 0 := by omega
 repeat' (first 
  | (with_reducible refine Fresh.intro fun b hb => ?_) <;> (try simp -dsimp -implicitDefEqProofs [*] at hb)
  | (simp -dsimp -implicitDefEqProofs [*]))
 refine q5g (fun y : Nat × Nat => [(2, .int (y.2 : Nat)), (55, .list false (l.flatMap Wv.row) l.length), (56, .int l.length), (57, .int (y.1 : Nat))]) (fun _ => st) (fun y => y.1 ≤ l.length ∧ y.2 ≤ D) (fun y => l.length - y.1) (0, 0) ⟨by omega, by omega⟩ (by simp) q5q ?_
 rintro ⟨i, d⟩ ⟨hi, hd⟩
 simp only at hi hd
 by_cases hil : i < l.length
 ·have hv := hf l[i] (List.getElem_mem hil)
  have hs := k0f (enc := Wv.row) (k := 4) (fun _ => rfl) l i hil
  have hfl := q6p (enc := Wv.row) (k := 4) (fun _ => rfl) l
  have hwi := q5h (n := i) (by omega)
  generalize l[i] = v at *
  generalize hrows : l.flatMap Wv.row = rows at *
  repeat' (first 
   | (with_reducible refine Fresh.intro fun b hb => ?_) <;> (try simp -dsimp -implicitDefEqProofs [*] at hb)
   | (simp -dsimp -implicitDefEqProofs [*]))
  refine q5z (hv _) ?_
  rintro e s2 ⟨d2, hd2, rfl, rfl⟩
  rw [q7o]
  clear hv
  by_cases hdd : d < d2
  ·repeat' (simp -dsimp -implicitDefEqProofs [*])
   exact Next.intro (i + 1, d2) ⟨by simp only; omega, hd2⟩ (by simp only; omega) (by simp) q5q
  ·repeat' (simp -dsimp -implicitDefEqProofs [*])
   exact Next.intro (i + 1, d) ⟨by simp only; omega, hd⟩ (by simp only; omega) (by simp) q5q
 ·have e : i = l.length := by omega
  subst e
  have hwd := q5h (n := d) (by omega)
  repeat' (simp -dsimp -implicitDefEqProofs [*])
  exact .same ⟨d + 1, by omega, by simp, rfl⟩
open Go.Pv Go.Pv.Sha
set_option maxRecDepth 100000
set_option maxHeartbeats 4000000
theorem k91 (c0 c1 c2 c3 : PV) (D : Nat) (hD : D ≤ 16) (st : q5d) (hf : ∀ st, PCalls P F.q1f [.agg [c0, c1, c2, c3]] st (FormedN D st)) : Rets P F.q4z [.agg [c0, c1, c2, c3]] st (.int 0) := by
 refine H.q4z.pure q5m rfl rfl ?_
 repeat' (first 
  | (with_reducible refine Fresh.intro fun b hb => ?_) <;> (try simp -dsimp -implicitDefEqProofs [*] at hb)
  | (simp -dsimp -implicitDefEqProofs [*]))
 refine q5z (hf _) ?_
 rintro e s ⟨d, hd, rfl, rfl⟩
 rw [q7o]
 clear hf
 have h16 : ¬ (16 : Int) < d := by omega
 repeat' (simp -dsimp -implicitDefEqProofs [*])
theorem Frozen.mono {I I' : Imm} {b : Nat} {o : PObj} (h : Frozen I b o) (hle : I.le I') : Frozen I' b o := by
 obtain ⟨r, h1, h2⟩ := h
 exact ⟨r, hle _ _ h1, k1n hle h2⟩
theorem Sees.freeze2 {b c : Nat} {o x : PObj} {p q : PV} {st : q5d} (hn : q6w ((c, x) :: st) b) (hm : q6w st c) (hf : ∀ I, Frozen I b o → Frozen I c x → ∀ v, vrep I p v → vrep I q v) : Sees p ((b, o) :: (c, x) :: st) q st := ⟨fun I w v h1 h2 => by
 obtain ⟨I1, h3, h4, h5⟩ := h1.freeze hn
 obtain ⟨I2, h6, h7, h8⟩ := h4.freeze hm
 exact ⟨I2, Imm.le_trans h3 h6, h7, hf I2 (Frozen.mono h5 h6) h8 v (q7f h6 _ _ (q7f h3 _ _ h2))⟩⟩
theorem Frz.wtab {b : Nat} {o : PObj} {c d : PV} (h : Frz b o c d) : Frzs b o (wtab c) (wtab d) :=
 .cons (.refl _) (.cons (.refl _) (.cons (.refl _) (.cons (.func _ .nil (.cons h .nil)) .nil)))
theorem z07 (st : q5d) : PCalls P F.q4e [] st (fun e s => ∃ c, e = .ret (.iptr (wtab (z52 (wtab (z52 (wtab c))))) 0) ∧ s = st) := by
 refine H.q4e.view q5m rfl rfl ?_
 repeat' (first 
  | (with_reducible refine Fresh.intro fun b hb => ?_) <;> (try simp -dsimp -implicitDefEqProofs [*] at hb)
  | (simp -dsimp -implicitDefEqProofs [*]))
 revert b
 intro w hw
 revert b
 intro p hp hw
 have e1 : Frz p (.arr T.q5c (wtab (.ptr w 0))) (.ptr p 0) (.iptr (wtab (.ptr w 0)) 0) := .ptr _ _ 0 rfl
 have e2 : Frz w (.arr T.codecwriter [.ptr p 0]) (.ptr w 0) (.iptr [.ptr p 0] 0) := .ptr _ _ 0 rfl
 refine .sees (Sees.freeze2 (q := .iptr (wtab (z52 (wtab (z52 (wtab (.ptr w 0)))))) 0) hw hp fun I fw fp v h0 => ?_) (.same ⟨⟨_, rfl⟩, rfl⟩)
 have h1 := Frz.vrep fp e1 h0
 have h2 := Frz.vrep fw (.iptr 0 (Frz.wtab e2)) h1
 have h3 := Frz.vrep fp (.iptr 0 (Frz.wtab (.iptr 0 (.cons e1 .nil)))) h2
 have h4 := Frz.vrep fw (.iptr 0 (Frz.wtab (.iptr 0 (.cons (.iptr 0 (Frz.wtab e2)) .nil)))) h3
 exact Frz.vrep fp (.iptr 0 (Frz.wtab (.iptr 0 (.cons (.iptr 0 (Frz.wtab (.iptr 0 (.cons e1 .nil)))) .nil)))) h4
theorem z69 (l : List Wv) (hl0 : 0 < l.length) (hl : l.length ≤ 100) (D : Nat) (hD : D ≤ 10) (hok : ∀ c, ∀ v ∈ l, v.Ok 210000 (wtab (z52 (wtab c)))) (hf : ∀ v ∈ l, ∀ st, PCalls P F.q1f [.agg v.row] st (FormedN D st)) (st : q5d) :
  Rets P F.q4q [.agg (k0x (l.flatMap Wv.row) l.length)] st (.tuple [q5s false (3#8 :: (k0w l.length ++ l.flatMap Wv.B)), .int 0]) := by
 refine H.q4q.view q5m rfl rfl ?_
 have hc := fun st => k91 (.int 3) (.int 0) q7v (.list false (l.flatMap Wv.row) l.length) (D + 1) (by omega) st (fun st => z19 D l hl0 hl hD st hf)
 repeat' (first 
  | (with_reducible refine Fresh.intro fun b hb => ?_) <;> (try simp -dsimp -implicitDefEqProofs [*] at hb)
  | (with_reducible refine Rets.xcall (hc _) ?_)
  | (simp -dsimp -implicitDefEqProofs [-q5f, *]))
 clear hc
 refine DrawLate.by (Cls ((b, .arr T.apiValue (k0x (l.flatMap Wv.row) l.length)) :: st) []) (Cls.self _ _) ?_
 repeat' (simp -dsimp -implicitDefEqProofs [-q5f, *])
 refine q5z (z07 _) ?_
 rintro e s2 ⟨c, rfl, rfl⟩
 rw [q7o]
 refine ⟨Cls.self _ _, ?_⟩
 have hok' := hok c
 clear hok
 have htab : (wtab (z52 (wtab (z52 (wtab c)))))[3]? = some (.func (.func F.q2u) [] [z52 (wtab (z52 (wtab c)))]) := rfl
 have kok : Hid (∀ v ∈ l, v.Ok 210000 (wtab (z52 (wtab c)))) := ⟨hok'⟩
 clear hok'
 generalize wtab (z52 (wtab c)) = tab at *
 generalize wtab (z52 tab) = tab3 at *
 repeat' (simp -dsimp -implicitDefEqProofs [-q5f, *])
 have hB := k1x l fun v hv => (kok.out v hv).B
 have hn := q66 (n := l.length) (by omega)
 refine q5z (k4i 0 (by omega) tab l hl (fun v hv => by simpa using kok.out v hv) none ((b, .arr T.apiValue (k0x (l.flatMap Wv.row) l.length)) :: st) trivial (by simp)) ?_
 rintro e s2 ⟨o, ho, hol, rfl, rfl⟩
 rw [q7o]
 simp only [k3h, List.nil_append] at hol
 refine ⟨q6i ho (Cls.self _ _), ?_⟩
 have kl : Hid (q59 o = 3#8 :: (k0w l.length ++ l.flatMap Wv.B)) := ⟨hol⟩
 clear hol kok htab hf
 repeat' (simp -dsimp -implicitDefEqProofs [-q5f, *])
 exact RetView.accP2 (row := q5e) rfl ho (.drop q5q ⟨by rw [kl.out], rfl⟩)
open Go.Pv Go.Pv.Sha
set_option maxRecDepth 100000
set_option maxHeartbeats 4000000
theorem k2i {α : Type} {row : List α → List PV} {k : Nat} (hrl : ∀ l, (row l).length = l.length * k) (hra : ∀ l m, row (l ++ m) = row l ++ row m) {T : TypeId} {bytes : Nat} {st : q5d} {K : PV → q5d → Prop}
  (ys xs : List α) {new : List PV} {m n : Nat} (hn : ys.length = n) (hnew : row xs = new) (hm : xs.length = m) (hm0 : 0 < m) (hsz : (n + m) * bytes ≤ 140737488355328)
  (h : ∀ o' : Option (Acc α), accOk row k st o' → q59 o' = ys ++ xs → K (k1k o') (q67 T st o')) : q6u T bytes k (.list true (row ys) n) new m st K := by
 have h1 : q6u T bytes k .nil (row ys ++ new) (n + m) st K := q8c hrl (ys ++ xs) (by rw [hra, hnew]) (by rw [List.length_append, hn, hm]) (by omega) (by simpa using hsz) fun a' ha' hl' hb' => h (some a') ⟨ha', hb'⟩ (by simpa using hl')
 rw [k4y] at h1
 rw [q5f]
 exact ⟨fun h => absurd h (by omega), fun _ => ⟨rfl, by rw [hrl, hn], h1.2 (by omega)⟩⟩
theorem k8v (n : Nat) : 0 < (k0w n).length := by
 by_cases h : n < 128
 ·rw [k90 h]; simp
 ·rw [z3n h]; simp
theorem k68 (u : Nat) : u < 18446744073709551616 → ∀ st, Rets P F.q1o [.val (.int .u64 (u : Int))] st (q5s false (k0w u)) := by
 induction u using Nat.strongRecOn with
 | ind u ih =>
  intro hu st
  refine H.q1o.view q5m rfl rfl ?_
  have hb := k56 u
  by_cases h128 : u < 128
  ·have h : (u : Int) < 128 := by omega
   rw [k90 h128]
   generalize BitVec.ofNat 8 u = x at *
   repeat' (first 
    | (with_reducible refine Lit.imm ?_)
    | (simp -dsimp -implicitDefEqProofs [*]))
   exact .loose1 (.same ⟨rfl, rfl⟩)
  ·have h : ¬ (u : Int) < 128 := by omega
   have ih' := fun st => ih (u / 128) (by omega) (by omega) st
   clear ih hb
   obtain ⟨v, hv⟩ : ∃ v, u / 128 = v := ⟨_, rfl⟩
   obtain ⟨r, hr⟩ : ∃ r, u % 128 = r := ⟨_, rfl⟩
   have hr1 : (u : Int) % 128 = r := by omega
   have hr2 : (u : Int).tmod 128 = r := by rw [Int.tmod_eq_emod_of_nonneg (by omega)]; omega
   have hv1 : (u : Int) / 128 = v := by omega
   have w1 : IntKind.u64.wrap (v : Int) = v := q73 (by omega) (by omega)
   have w2 : IntKind.u64.wrap ((r : Int) + 128) = (r : Int) + 128 := q73 (by omega) (by omega)
   have w3 : IntKind.u64.wrap (r : Int) = r := q73 (by omega) (by omega)
   have hb : PV.val (.int .u8 (IntKind.u8.wrap ((r : Int) + 128))) = bv (BitVec.ofNat 8 (r + 128)) := k56 (r + 128)
   rw [z3n h128, hr, hv]
   rw [hv] at ih'
   have hnl := q66 (n := v) (by omega)
   have hnp := k8v v
   clear hv hr
   generalize BitVec.ofNat 8 (r + 128) = x at *
   generalize k0w v = E at *
   repeat' (first 
    | (with_reducible refine Rets.xcall (ih' _) ?_)
    | (with_reducible refine Lit.imm ?_)
    | (simp -dsimp -implicitDefEqProofs [-q5f, *]))
   refine k2i (bytes := 1) (n := 1) q5y q5l [x] E rfl rfl rfl hnp (by omega) fun o ho hol => ?_
   have kl : Hid (q59 o = x :: E) := ⟨hol⟩
   clear hol
   repeat' (simp -dsimp -implicitDefEqProofs [-q5f, *])
   exact RetView.accP1 rfl ho (.same ⟨by rw [kl.out], rfl⟩)
theorem z7a (n : Nat) (hn : n < 1000000000000) (st : q5d) : Rets P F.q27 [.int (n : Int)] st (.val (.int .u64 ((2 * n : Nat) : Int))) := by
 refine H.q27.pure q5m rfl rfl ?_
 have h1 : IntKind.u64.wrap (n : Int) = n := q73 (by omega) (by omega)
 have h2 : IntKind.u64.wrap (2 * (n : Int)) = 2 * (n : Int) := q73 (by omega) (by omega)
 repeat' (simp -dsimp -implicitDefEqProofs [*])
theorem k58 (n : Nat) (hn : n < 1000000000000) (st : q5d) : Rets P F.q0k [.agg (j8g n)] st (q5s false (1#8 :: k0w (2 * n))) := by
 refine H.q0k.view q5m rfl rfl ?_
 have hu := fun st => z7a n hn st
 have hm := fun st => k68 (2 * n) (by omega) st
 have hnl := q66 (n := 2 * n) (by omega)
 have hnp := k8v (2 * n)
 have e : ((2 * n : Nat) : Int) = 2 * (n : Int) := by omega
 rw [e] at hu hm
 generalize k0w (2 * n) = E at *
 repeat' (first 
  | (with_reducible refine Fresh.intro fun b hb => ?_) <;> (try simp -dsimp -implicitDefEqProofs [*] at hb)
  | (with_reducible refine Rets.xcall (hu _) ?_)
  | (with_reducible refine Rets.xcall (hm _) ?_)
  | (with_reducible refine Lit.imm ?_)
  | (simp -dsimp -implicitDefEqProofs [-q5f, *]))
 refine k2i (bytes := 1) (n := 1) q5y q5l [1#8] E rfl rfl rfl hnp (by omega) fun o ho hol => ?_
 have kl : Hid (q59 o = 1#8 :: E) := ⟨hol⟩
 clear hol
 repeat' (simp -dsimp -implicitDefEqProofs [-q5f, *])
 exact RetView.accP1 rfl ho (.drop q5q ⟨by rw [kl.out], rfl⟩)
theorem z98 (x : ByteArray) (hx : x.size ≤ 1000) (st : q5d) : Rets P F.q0k [.agg (z3p x)] st (q5s false (2#8 :: (k0w x.size ++ q8l x))) := by
 refine H.q0k.view q5m rfl rfl ?_
 have hm := fun st => k68 x.size (by omega) st
 have hsz : IntKind.u64.wrap (x.size : Int) = (x.size : Int) := q73 (by omega) (by omega)
 have hnl := q66 (n := x.size) (by omega)
 have hnp := k8v x.size
 generalize k0w x.size = E at *
 repeat' (first 
  | (with_reducible refine Fresh.intro fun b hb => ?_) <;> (try simp -dsimp -implicitDefEqProofs [*] at hb)
  | (with_reducible refine Rets.xcall (hm _) ?_)
  | (with_reducible refine DrawLate.intro [] ?_)
  | (simp -dsimp -implicitDefEqProofs [-q5f, *]))
 refine k2i (bytes := 1) (n := 1) q5y q5l [2#8] E rfl rfl rfl hnp (by omega) fun o ho hol => ?_
 have kl : Hid (q59 o = 2#8 :: E) := ⟨hol⟩
 clear hol
 refine ⟨q6i ho (Cls.self _ _), ?_⟩
 repeat' (simp -dsimp -implicitDefEqProofs [-q5f, *])
 refine q6t q5y q5l o ho (q8l x) (k2g x).symm (k1a x) (by rw [kl.out]; simp; omega) fun o3 ho3 hl3 => ?_
 have kl3 : Hid (q59 o3 = 2#8 :: (E ++ q8l x)) := ⟨by rw [hl3, kl.out]; simp⟩
 clear hl3 kl
 refine ⟨q6i ho3 (Cls.self _ _), ?_⟩
 repeat' (simp -dsimp -implicitDefEqProofs [-q5f, *])
 exact RetView.accP1 rfl ho3 (.drop q5q ⟨by rw [kl3.out], rfl⟩)
theorem z2a (l : List Wv) (hl : l.length ≤ 100) (hB : ∀ v ∈ l, v.B.length ≤ 2000) (hok : ∀ v ∈ l, ∀ st, Rets P F.q0k [.agg v.row] st (q5s false v.B)) (st : q5d) : Rets P F.q0k [.agg (k0x (l.flatMap Wv.row) l.length)] st (q5s false (3#8 :: (k0w l.length ++ l.flatMap Wv.B))) := by
 refine H.q0k.view q5m rfl rfl ?_
 have hm := fun st => k68 l.length (by omega) st
 have hsz : IntKind.u64.wrap (l.length : Int) = (l.length : Int) := q73 (by omega) (by omega)
 have hnl := q66 (n := l.length) (by omega)
 have hnp := k8v l.length
 generalize k0w l.length = E at *
 repeat' (first 
  | (with_reducible refine Fresh.intro fun b hb => ?_) <;> (try simp -dsimp -implicitDefEqProofs [*] at hb)
  | (with_reducible refine Rets.xcall (hm _) ?_)
  | (with_reducible refine Lit.imm ?_)
  | (simp -dsimp -implicitDefEqProofs [-q5f, *]))
 refine k2i (bytes := 1) (n := 1) q5y q5l [3#8] E rfl rfl rfl hnp (by omega) fun o ho hol => ?_
 have kl : Hid (q59 o = 3#8 :: E) := ⟨hol⟩
 clear hol hm hsz
 repeat' (simp -dsimp -implicitDefEqProofs [-q5f, *])
 have hgb : q5x ((b, .arr T.apiValue (k0x (l.flatMap Wv.row) l.length)) :: st) b = some (.arr T.apiValue (k0x (l.flatMap Wv.row) l.length)) := by simp
 have hns : q6w st b := ‹_›
 have hle : ∀ q : Option (Acc (BitVec 8)), accOk q5e 1 ((b, .arr T.apiValue (k0x (l.flatMap Wv.row) l.length)) :: st) q → RetView .ret (k1k q) (q67 T.uint8 ((b, .arr T.apiValue (k0x (l.flatMap Wv.row) l.length)) :: st) q) (fun e s => e = .ret (q5s false (q59 q)) ∧ s = st) := fun q hq => RetView.accP1 rfl hq (.drop (.fresh hns) ⟨rfl, rfl⟩)
 have kle : Hid (∀ q : Option (Acc (BitVec 8)), accOk q5e 1 ((b, .arr T.apiValue (k0x (l.flatMap Wv.row) l.length)) :: st) q → RetView .ret (k1k q) (q67 T.uint8 ((b, .arr T.apiValue (k0x (l.flatMap Wv.row) l.length)) :: st) q) (fun e s => e = .ret (q5s false (q59 q)) ∧ s = st)) := ⟨hle⟩
 clear hle hns
 have hlrow : ∃ rows, l.flatMap Wv.row = rows ∧ rows.length = l.length * 4 := ⟨_, rfl, q6p (enc := Wv.row) (k := 4) (fun _ => rfl) l⟩
 obtain ⟨rows, hrows, hfl⟩ := hlrow
 rw [hrows] at hgb kle ho
 rw [hrows]
 generalize hst1 : (b, PObj.arr T.apiValue (k0x rows l.length)) :: st = st1 at *
 have kok : Hid (∀ v ∈ l, ∀ st, Rets P F.q0k [.agg v.row] st (q5s false v.B)) := ⟨hok⟩
 have kB : Hid (∀ v ∈ l, v.B.length ≤ 2000) := ⟨hB⟩
 have krows : Hid (l.flatMap Wv.row = rows) := ⟨hrows⟩
 clear hok hB hst1 hrows
 refine q5g (fun y : Nat × Option (Acc (BitVec 8)) => [(1, .ptr b 0), (3, k1k y.2), (4, .int (y.1 : Nat))]) (fun y => q67 T.uint8 st1 y.2) (fun y => y.1 ≤ l.length ∧ accOk q5e 1 st1 y.2 ∧ q59 y.2 = 3#8 :: (E ++ (l.take y.1).flatMap Wv.B)) (fun y => l.length - y.1) (0, o) ⟨by omega, ho, by rw [kl.out]; simp⟩ (by simp) (.refl _) ?_
 clear kl ho
 clear o
 rintro ⟨i, q⟩ ⟨hi, hq, hql⟩
 simp only at hi hq hql
 have kl : Hid (q59 q = 3#8 :: (E ++ (l.take i).flatMap Wv.B)) := ⟨hql⟩
 clear hql
 have hgq := k8u (T := T.uint8) hq hgb
 by_cases hil : i < l.length
 ·have hv := kok.out l[i] (List.getElem_mem hil)
  have hs := k0f (enc := Wv.row) (k := 4) (fun _ => rfl) l i hil
  rw [krows.out] at hs
  have kT : Hid ((l.take (i + 1)).flatMap Wv.B = (l.take i).flatMap Wv.B ++ l[i].B) := ⟨by rw [List.take_succ_eq_append_getElem hil, List.flatMap_append, List.flatMap_cons, List.flatMap_nil, List.append_nil]⟩
  have hwi := q5h (n := i) (by omega)
  have hb2 := kB.out l[i] (List.getElem_mem hil)
  have hlq : (q59 q).length ≤ 1000000 := by
   rw [kl.out]
   have h1 := k1x (l.take i) fun v hv => kB.out v (List.mem_of_mem_take hv)
   simp only [List.length_append, List.length_cons, List.length_take] at h1 ⊢
   omega
  generalize l[i] = v at *
  repeat' (first 
   | (with_reducible refine Rets.xcall (hv _) ?_)
   | (simp -dsimp -implicitDefEqProofs [-q5f, *]))
  refine q6t q5y q5l q hq v.B rfl rfl (by omega) fun q2 hq2 hl2 => ?_
  have kl2 : Hid (q59 q2 = 3#8 :: (E ++ (l.take (i + 1)).flatMap Wv.B)) := ⟨by rw [hl2, kl.out, kT.out]; simp⟩
  clear hl2 kl
  repeat' (simp -dsimp -implicitDefEqProofs [-q5f, *])
  exact Next.intro (i + 1, q2) ⟨by simp only; omega, hq2, kl2.out⟩ (by simp only; omega) (by simp) q5q
 ·have e : i = l.length := by omega
  subst e
  have kl2 : Hid (q59 q = 3#8 :: (E ++ l.flatMap Wv.B)) := ⟨by rw [kl.out, List.take_length]⟩
  have hend := kle.out q hq
  clear kl
  rw [kl2.out] at hend
  repeat' (simp -dsimp -implicitDefEqProofs [-q5f, *])
open Go.Pv Go.Pv.Sha
set_option maxRecDepth 100000
set_option maxHeartbeats 4000000
def DepthN (D : Nat) (st : q5d) (e : PEnd) (s : q5d) : Prop := ∃ d : Nat, d ≤ D ∧ e = .ret (.int (d : Int)) ∧ s = st
theorem k1b (n : Nat) (st : q5d) : Rets P F.q0o [.agg (j8g n)] st (.bool true) := by
 refine H.q0o.pure q5m rfl rfl ?_
 repeat' (first 
  | (with_reducible refine Fresh.intro fun b hb => ?_) <;> (try simp -dsimp -implicitDefEqProofs [*] at hb)
  | (simp -dsimp -implicitDefEqProofs [*]))
theorem z3r (x : ByteArray) (st : q5d) : Rets P F.q0o [.agg (z3p x)] st (.bool true) := by
 refine H.q0o.pure q5m rfl rfl ?_
 repeat' (first 
  | (with_reducible refine Fresh.intro fun b hb => ?_) <;> (try simp -dsimp -implicitDefEqProofs [*] at hb)
  | (simp -dsimp -implicitDefEqProofs [*]))
theorem k2j (n : Nat) (st : q5d) : PCalls P F.q0s [.agg (j8g n)] st (DepthN 0 st) := by
 refine H.q0s.view q5m rfl rfl ?_
 repeat' (first 
  | (with_reducible refine Fresh.intro fun b hb => ?_) <;> (try simp -dsimp -implicitDefEqProofs [*] at hb)
  | (simp -dsimp -implicitDefEqProofs [*]))
 exact .drop q5q ⟨0, Nat.le_refl _, rfl, rfl⟩
theorem z5h (x : ByteArray) (st : q5d) : PCalls P F.q0s [.agg (z3p x)] st (DepthN 0 st) := by
 refine H.q0s.view q5m rfl rfl ?_
 repeat' (first 
  | (with_reducible refine Fresh.intro fun b hb => ?_) <;> (try simp -dsimp -implicitDefEqProofs [*] at hb)
  | (simp -dsimp -implicitDefEqProofs [*]))
 exact .drop q5q ⟨0, Nat.le_refl _, rfl, rfl⟩
theorem k59 (l : List Wv) (hl : l.length ≤ 100) (st : q5d) (hf : ∀ v ∈ l, ∀ st, Rets P F.q0o [.agg v.row] st (.bool true)) : Rets P F.q0o [.agg (k0x (l.flatMap Wv.row) l.length)] st (.bool true) := by
 refine H.q0o.pure q5m rfl rfl ?_
 have hfl := q6p (enc := Wv.row) (k := 4) (fun _ => rfl) l
 have hs := fun i h => k0f (enc := Wv.row) (k := 4) (fun _ => rfl) l i h
 generalize l.flatMap Wv.row = rows at *
 repeat' (first 
  | (with_reducible refine Fresh.intro fun b hb => ?_) <;> (try simp -dsimp -implicitDefEqProofs [*] at hb)
  | (simp -dsimp -implicitDefEqProofs [*]))
 refine q5g (fun i : Nat => [(1, .ptr b 0), (3, .int (i : Nat))]) (fun _ => (b, .arr T.apiValue (k0x rows l.length)) :: st) (fun i => i ≤ l.length) (fun i => l.length - i) 0 (by omega) (by simp) (.refl _) ?_
 intro i hi
 by_cases hil : i < l.length
 ·have hv := hf l[i] (List.getElem_mem hil)
  have hs' := hs i hil
  clear hs
  have hwi := q5h (n := i) (by omega)
  generalize l[i] = v at *
  repeat' (first 
   | (with_reducible refine Rets.xcall (hv _) ?_)
   | (simp -dsimp -implicitDefEqProofs [*]))
  exact Next.intro (i + 1) (by omega) (by omega) (by simp) q5q
 ·have e : i = l.length := by omega
  subst e
  repeat' (simp -dsimp -implicitDefEqProofs [*])
theorem k78 (D : Nat) (hD : D ≤ 10) (l : List Wv) (hl : l.length ≤ 100) (st : q5d) (hf : ∀ v ∈ l, ∀ st, PCalls P F.q0s [.agg v.row] st (DepthN D st)) :
  PCalls P F.q0s [.agg (k0x (l.flatMap Wv.row) l.length)] st (DepthN (D + 1) st) := by
 refine H.q0s.view q5m rfl rfl ?_
 have hfl := q6p (enc := Wv.row) (k := 4) (fun _ => rfl) l
 have hs := fun i h => k0f (enc := Wv.row) (k := 4) (fun _ => rfl) l i h
 generalize l.flatMap Wv.row = rows at *
 repeat' (first 
  | (with_reducible refine Fresh.intro fun b hb => ?_) <;> (try simp -dsimp -implicitDefEqProofs [*] at hb)
  | (simp -dsimp -implicitDefEqProofs [*]))
 refine q5g (fun y : Nat × Nat => [(1, .ptr b 0), (3, .int (y.2 : Nat)), (4, .int (y.1 : Nat))]) (fun _ => (b, .arr T.apiValue (k0x rows l.length)) :: st) (fun y => y.1 ≤ l.length ∧ y.2 ≤ D) (fun y => l.length - y.1) (0, 0) ⟨by omega, by omega⟩ (by simp) (.refl _) ?_
 rintro ⟨i, d⟩ ⟨hi, hd⟩
 simp only at hi hd
 by_cases hil : i < l.length
 ·have hv := hf l[i] (List.getElem_mem hil)
  have hs' := hs i hil
  clear hs hf
  have hwi := q5h (n := i) (by omega)
  generalize l[i] = v at *
  repeat' (simp -dsimp -implicitDefEqProofs [*])
  refine q5z (hv _) ?_
  rintro e s2 ⟨d2, hd2, rfl, rfl⟩
  rw [q7o]
  clear hv
  by_cases hdd : d < d2
  ·repeat' (simp -dsimp -implicitDefEqProofs [*])
   exact Next.intro (i + 1, d2) ⟨by simp only; omega, hd2⟩ (by simp only; omega) (by simp) q5q
  ·repeat' (simp -dsimp -implicitDefEqProofs [*])
   exact Next.intro (i + 1, d) ⟨by simp only; omega, hd⟩ (by simp only; omega) (by simp) q5q
 ·have e : i = l.length := by omega
  subst e
  have hwd := q5h (n := d) (by omega)
  repeat' (simp -dsimp -implicitDefEqProofs [*])
  exact .drop q5q ⟨d + 1, by omega, by simp, rfl⟩
open Go.Pv Go.Pv.Sha
set_option maxRecDepth 100000
set_option maxHeartbeats 4000000
def q96 (n : Nat) : Wv := ⟨1, .int (n : Int), q7v, .nil, 1#8 :: k0w (2 * n)⟩
def z99 (x : ByteArray) : Wv := ⟨2, .int 0, .str x, .nil, 2#8 :: (k0w x.size ++ q8l x)⟩
def z5i (l : List Wv) : Wv := ⟨3, .int 0, q7v, .list false (l.flatMap Wv.row) l.length, 3#8 :: (k0w l.length ++ l.flatMap Wv.B)⟩
abbrev BIG : Nat := 1000000000000
theorem k0g (n : Nat) (hn : n < BIG) : (q96 n).B.length ≤ 11 := by
 have := q66 (n := 2 * n) (by unfold BIG at hn; omega)
 show (1#8 :: k0w (2 * n)).length ≤ 11
 rw [List.length_cons]; omega
theorem k45 (M n : Nat) (hM : M ≤ 1000000) (hn : n < BIG) (c : PV) : (q96 n).Ok M (wtab c) := ⟨(by decide : 1 < 4), by have := k0g n hn; omega, _, _, rfl, fun o st ho hol => z3q n hn o st ho (by omega)⟩
theorem k8w (M : Nat) (hM : M ≤ 1000000) (x : ByteArray) (hx : x.size ≤ 1000) (c : PV) : (z99 x).Ok M (wtab c) := ⟨(by decide : 2 < 4), by
 have := q66 (n := x.size) (by omega)
 show (2#8 :: (k0w x.size ++ q8l x)).length ≤ 2000
 rw [List.length_cons, List.length_append, k1a]; omega, _, _, rfl, fun o st ho hol => z06 x hx o st ho (by omega)⟩
theorem ints_flat (l : List Nat) (hl : ∀ n ∈ l, n < BIG) : ((l.map q96).flatMap Wv.B).length ≤ l.length * 11 := by
 induction l with
 | nil => simp
 | cons n l ih =>
  have h1 := ih fun m hm => hl m (List.mem_cons_of_mem _ hm)
  have h2 := k0g n (hl n List.mem_cons_self)
  simp only [List.map_cons, List.flatMap_cons, List.length_append, List.length_cons]
  omega
abbrev k2u (l : List Nat) : Wv := z5i (l.map q96)
theorem k3o (l : List Nat) (h100 : l.length ≤ 100) (hl : ∀ n ∈ l, n < BIG) : (k2u l).B.length ≤ 2000 := by
 have h1 := ints_flat l hl
 have h2 := q66 (n := l.length) (by omega)
 show (3#8 :: (k0w (l.map q96).length ++ (l.map q96).flatMap Wv.B)).length ≤ 2000
 rw [List.length_map, List.length_cons, List.length_append]
 omega
theorem k8x (M : Nat) (hM : M ≤ 500000) (l : List Nat) (h100 : l.length ≤ 100) (hl : ∀ n ∈ l, n < BIG) (c : PV) : (k2u l).Ok M (wtab (z52 (wtab c))) :=
 ⟨(by decide : 3 < 4), k3o l h100 hl, _, _, rfl, fun o st ho hol => k4i M hM (wtab c) (l.map q96) (by simpa using h100) (fun v hv => by
  obtain ⟨n, hn, rfl⟩ := List.mem_map.1 hv
  exact k45 _ n (by omega) (hl n hn) c) o st ho hol⟩
def parts (r e j : Nat) (m k : List Nat) (x : ByteArray) : List Wv := [q96 r, q96 e, q96 j, k2u m, k2u k, z99 x]
def k8l (r e j : Nat) (m k : List Nat) (x : ByteArray) : List (BitVec 8) := (z5i (parts r e j m k x)).B
structure Fit (r e j : Nat) (m k : List Nat) (x : ByteArray) : Prop where
 hr : r < BIG
 he : e < BIG
 hj : j < BIG
 hm : ∀ n ∈ m, n < BIG
 hk : ∀ n ∈ k, n < BIG
 m0 : 0 < m.length
 k0 : 0 < k.length
 m1 : m.length ≤ 100
 k1 : k.length ≤ 100
 hx : x.size ≤ 1000
theorem q92 {r e j : Nat} {m k : List Nat} {x : ByteArray} {Q : Wv → Prop} (h1 : Q (q96 r)) (h2 : Q (q96 e)) (h3 : Q (q96 j)) (h4 : Q (k2u m)) (h5 : Q (k2u k)) (h6 : Q (z99 x)) : ∀ v ∈ parts r e j m k x, Q v := by
 intro v hv
 simp only [parts, List.mem_cons, List.not_mem_nil, or_false] at hv
 rcases hv with rfl | rfl | rfl | rfl | rfl | rfl <;> assumption
theorem j3f (l : List Nat) (h0 : 0 < l.length) (h1 : l.length ≤ 100) (st : q5d) : PCalls P F.q1f [.agg (k2u l).row] st (FormedN 1 st) :=
 z19 0 (l.map q96) (by simpa using h0) (by simpa using h1) (by omega) st fun v hv st => by
  obtain ⟨n, hn, rfl⟩ := List.mem_map.1 hv
  exact k57 n st
theorem FormedN.le {D E : Nat} (h : D ≤ E) {f : FuncId} {a : List PV} {st : q5d} (k : PCalls P f a st (FormedN D st)) : PCalls P f a st (FormedN E st) := k.mono fun _ _ ⟨d, h1, h2, h3⟩ => ⟨d, by omega, h2, h3⟩
theorem j98 {r e j : Nat} {m k : List Nat} {x : ByteArray} (h : Fit r e j m k x) (st : q5d) : Rets P F.q4q [.agg (z5i (parts r e j m k x)).row] st (.tuple [q5s false (k8l r e j m k x), .int 0]) :=
 z69 (parts r e j m k x) (by simp [parts]) (by simp [parts]) 1 (by omega)
  (fun c => q92 (k45 _ _ (by omega) h.hr _) (k45 _ _ (by omega) h.he _) (k45 _ _ (by omega) h.hj _) (k8x _ (by omega) m h.m1 h.hm c) (k8x _ (by omega) k h.k1 h.hk c) (k8w _ (by omega) x h.hx _))
  (fun v hv => (q92 (Q := fun v => ∀ st, PCalls P F.q1f [.agg v.row] st (FormedN 1 st)) (fun st => FormedN.le (by omega) (k57 r st)) (fun st => FormedN.le (by omega) (k57 e st)) (fun st => FormedN.le (by omega) (k57 j st)) (j3f m h.m0 h.m1) (j3f k h.k0 h.k1) (fun st => FormedN.le (by omega) (z97 x st))) v hv) st
theorem z2b (l : List Nat) (h1 : l.length ≤ 100) (hl : ∀ n ∈ l, n < BIG) (st : q5d) : Rets P F.q0k [.agg (k2u l).row] st (q5s false (k2u l).B) :=
 z2a (l.map q96) (by simpa using h1) (fun v hv => by
  obtain ⟨n, hn, rfl⟩ := List.mem_map.1 hv
  have := k0g n (hl n hn); omega) (fun v hv st => by
  obtain ⟨n, hn, rfl⟩ := List.mem_map.1 hv
  exact k58 n (hl n hn) st) st
theorem k6a (l : List Nat) (h1 : l.length ≤ 100) (st : q5d) : Rets P F.q0o [.agg (k2u l).row] st (.bool true) :=
 k59 (l.map q96) (by simpa using h1) st fun v hv st => by
  obtain ⟨n, hn, rfl⟩ := List.mem_map.1 hv
  exact k1b n st
theorem DepthN.le {D E : Nat} (h : D ≤ E) {f : FuncId} {a : List PV} {st : q5d} (k : PCalls P f a st (DepthN D st)) : PCalls P f a st (DepthN E st) := k.mono fun _ _ ⟨d, h1, h2, h3⟩ => ⟨d, by omega, h2, h3⟩
theorem k79 (l : List Nat) (h1 : l.length ≤ 100) (st : q5d) : PCalls P F.q0s [.agg (k2u l).row] st (DepthN 1 st) :=
 k78 0 (by omega) (l.map q96) (by simpa using h1) st fun v hv st => by
  obtain ⟨n, hn, rfl⟩ := List.mem_map.1 hv
  exact k2j n st
theorem z3s (c0 c1 c2 c3 : PV) (D : Nat) (hD : D ≤ 16) (st : q5d) (hf : ∀ st, Rets P F.q0o [.agg [c0, c1, c2, c3]] st (.bool true)) (hd : ∀ st, PCalls P F.q0s [.agg [c0, c1, c2, c3]] st (DepthN D st)) : Rets P F.q3d [.agg [c0, c1, c2, c3]] st (.int 0) := by
 refine H.q3d.pure q5m rfl rfl ?_
 repeat' (first 
  | (with_reducible refine Fresh.intro fun b hb => ?_) <;> (try simp -dsimp -implicitDefEqProofs [*] at hb)
  | (with_reducible refine Rets.xcall (hf _) ?_)
  | (simp -dsimp -implicitDefEqProofs [*]))
 clear hf
 refine q5z (hd _) ?_
 rintro e s ⟨d, hd, rfl, rfl⟩
 rw [q7o]
 have h16 : ¬ (16 : Int) < d := by omega
 repeat' (simp -dsimp -implicitDefEqProofs [*])
theorem z08 (c0 c1 c2 c3 : PV) (B : List (BitVec 8)) (st : q5d) (hc : ∀ st, Rets P F.q3d [.agg [c0, c1, c2, c3]] st (.int 0)) (he : ∀ st, Rets P F.q0k [.agg [c0, c1, c2, c3]] st (q5s false B)) :
  Rets P F.q24 [.agg [c0, c1, c2, c3]] st (.tuple [q5s false B, .int 0]) := by
 refine H.q24.pure q5m rfl rfl ?_
 repeat' (first 
  | (with_reducible refine Fresh.intro fun b hb => ?_) <;> (try simp -dsimp -implicitDefEqProofs [*] at hb)
  | (with_reducible refine Rets.xcall (hc _) ?_)
  | (with_reducible refine Rets.xcall (he _) ?_)
  | (simp -dsimp -implicitDefEqProofs [*]))
theorem j0a {r e j : Nat} {m k : List Nat} {x : ByteArray} (h : Fit r e j m k x) (st : q5d) : Rets P F.q24 [.agg (z5i (parts r e j m k x)).row] st (.tuple [q5s false (k8l r e j m k x), .int 0]) := by
 have hB : ∀ v ∈ parts r e j m k x, v.B.length ≤ 2000 := fun v hv => (q92 (Q := fun v => v.Ok 0 (wtab (z52 (wtab .nil)))) (k45 _ _ (by omega) h.hr _) (k45 _ _ (by omega) h.he _) (k45 _ _ (by omega) h.hj _) (k8x _ (by omega) m h.m1 h.hm .nil) (k8x _ (by omega) k h.k1 h.hk .nil) (k8w _ (by omega) x h.hx _) v hv).B
 refine z08 _ _ _ _ _ st (fun st => z3s _ _ _ _ 2 (by omega) st (fun st => ?_) (fun st => ?_)) (fun st => ?_)
 ·exact k59 (parts r e j m k x) (by simp [parts]) st (q92 (Q := fun v => ∀ st, Rets P F.q0o [.agg v.row] st (.bool true)) (k1b r) (k1b e) (k1b j) (k6a m h.m1) (k6a k h.k1) (z3r x))
 ·exact k78 1 (by omega) (parts r e j m k x) (by simp [parts]) st (q92 (Q := fun v => ∀ st, PCalls P F.q0s [.agg v.row] st (DepthN 1 st)) (fun st => DepthN.le (by omega) (k2j r st)) (fun st => DepthN.le (by omega) (k2j e st)) (fun st => DepthN.le (by omega) (k2j j st)) (k79 m h.m1) (k79 k h.k1) (fun st => DepthN.le (by omega) (z5h x st)))
 ·exact z2a (parts r e j m k x) (by simp [parts]) hB (q92 (Q := fun v => ∀ st, Rets P F.q0k [.agg v.row] st (q5s false v.B)) (k58 r h.hr) (k58 e h.he) (k58 j h.hj) (z2b m h.m1 h.hm) (z2b k h.k1 h.hk) (z98 x h.hx)) st
end Go.Proofs.YtnooplpbpfiapaaGreatDoor
