/- What a right session holds: plain. -/
import Derived.Test.YtnooplpbpfiapaaGreatDoorG36X
import Derived.Test.YtnooplpbpfiapaaGreatDoorS36X
import Derived.Test.YtnooplpbpfiapaaGreatDoorG36T
namespace Go.Proofs.YtnooplpbpfiapaaGreatDoor
open Go.Pv Go.Pv.Ip
set_option maxRecDepth 100000
theorem k93 {n m : Int} : wiL n m = true ↔ 0 ≤ n ∧ n < m := by
 unfold wiL
 rw [Bool.and_eq_true, decide_eq_true_eq, decide_eq_true_eq]
structure RightP (s : Ses) : Prop where
 round : 0 ≤ s.round ∧ s.round < 8
 entry : 0 ≤ s.entry ∧ s.entry < 4096
 crits : 1 ≤ s.crits ∧ s.crits ≤ 64
 many : 1 ≤ s.judges.length ∧ s.judges.length ≤ 24
 need : 1 ≤ s.need ∧ s.need ≤ s.judges.length
 deadline : 0 ≤ s.deadline ∧ s.deadline < 2097152
 time : 0 ≤ s.time ∧ s.time < 2097152
 judges : q53 k1h s.judges = true
 judge : ∀ n ∈ s.judges, 0 ≤ n ∧ n < 256
 sealed : q53 cJ s.sealed = true
 card : ∀ x ∈ s.sealed, q8l s x = true
 keys : q53 q98 s.keys = true
 key : ∀ x ∈ s.keys, q7d s x = true
 shown : q53 nJ s.shown = true
 show_ : ∀ x ∈ s.shown, q75 s x = true
 gate : q8j s = true ∨ s.keys = [] ∧ s.shown = []
theorem q9t (s : Ses) : q67 s = true ↔ RightP s := by
 unfold q67 k03
 simp only [Bool.and_eq_true, Bool.or_eq_true, decide_eq_true_eq, k93, List.all_eq_true]
 constructor
 ·rintro ⟨⟨⟨⟨⟨⟨⟨a1, a2⟩, a3⟩, a4⟩, a5⟩, a6⟩, a7⟩, ⟨b1, b2⟩, ⟨c1, c2⟩, ⟨d1, d2⟩, ⟨e1, e2⟩, f⟩
  refine ⟨a1, a2, by omega, by omega, by omega, a6, a7, b1, b2, c1, c2, d1, d2, e1, e2, ?_⟩
  rcases f with f | f
  ·exact .inl f
  ·exact .inr ⟨List.length_eq_zero_iff.1 (by omega), List.length_eq_zero_iff.1 (by omega)⟩
 ·intro h
  have h3 := h.crits
  have h4 := h.many
  have h5 := h.need
  refine ⟨⟨⟨⟨⟨⟨⟨h.round, h.entry⟩, by omega⟩, by omega⟩, by omega⟩, h.deadline⟩, h.time⟩, ⟨h.judges, h.judge⟩, ⟨h.sealed, h.card⟩, ⟨h.keys, h.key⟩, ⟨h.shown, h.show_⟩, ?_⟩
  rcases h.gate with f | ⟨f, g⟩
  ·exact .inl f
  ·exact .inr (by rw [f, g]; rfl)
theorem z7s {s : Ses} {x : Sh} (h : q7d s x = true) : x.o ∈ s.judges ∧ x.h ∈ s.judges ∧ x.o ≠ x.h ∧ (0 ≤ x.c ∧ x.c < s.crits) ∧ 0 ≤ x.v ∧ x.v < Qi := by
 unfold q7d at h
 simp only [Bool.and_eq_true, decide_eq_true_eq, k93] at h
 exact ⟨h.1.1.1.1, h.1.1.1.2, h.1.1.2, h.1.2, h.2⟩
theorem j33 {ks : List Sh} (h : q53 q98 ks = true) (j c : Int) : (k6j j c ks).Pairwise fun p q => p.X < q.X := by
 unfold k6j
 rw [List.pairwise_map]
 have h1 := (q80 k16 h).sublist (List.filter_sublist (p := isK j c))
 refine h1.imp_of_mem fun {x y} hx hy hxy => ?_
 have ex := (List.mem_filter.1 hx).2
 have ey := (List.mem_filter.1 hy).2
 simp only [isK, Bool.and_eq_true, decide_eq_true_eq] at ex ey
 rw [q9s] at hxy
 show x.h + 1 < y.h + 1
 omega
theorem j6x {ks : List Sh} {j c : Int} {p : Pt} (h : p ∈ k6j j c ks) : ∃ x ∈ ks, x.o = j ∧ x.c = c ∧ p = ptK x := by
 unfold k6j at h
 obtain ⟨x, hx, rfl⟩ := List.mem_map.1 h
 obtain ⟨h1, h2⟩ := List.mem_filter.1 hx
 simp only [isK, Bool.and_eq_true, decide_eq_true_eq] at h2
 exact ⟨x, h1, h2.1, h2.2, rfl⟩
theorem y0u {l : List Pt} (h : l.Pairwise fun p q => p.X < q.X) (hx : ∀ p ∈ l, 0 ≤ p.X ∧ p.X ≤ 256) : GoodP (q56 l) where
 x i hi := by
  rw [q71] at hi
  rw [Ip.X, q8h hi]
  exact hx _ (List.getElem_mem hi)
 ne i k hi hk hne := by
  rw [q71] at hi hk
  rw [Ip.X, Ip.X, q8h hi, q8h hk]
  rcases Nat.lt_or_gt_of_ne hne with h1 | h1
  ·have := List.pairwise_iff_getElem.1 h i k hi hk h1
   simp only; omega
  ·have := List.pairwise_iff_getElem.1 h k i hk hi h1
   simp only; omega
theorem RightP.holder {s : Ses} (h : RightP s) : ∀ x ∈ s.keys, 0 ≤ x.h ∧ x.h < 256 := fun x hx => h.judge _ (z7s (h.key x hx)).2.1
theorem RightP.good {s : Ses} (h : RightP s) (j c : Int) (n : Nat) : GoodP (q56 ((k6j j c s.keys).take n)) := by
 refine y0u ((j33 h.keys j c).sublist (List.take_sublist _ _)) fun p hp => ?_
 obtain ⟨x, hx, -, -, rfl⟩ := j6x (List.mem_of_mem_take hp)
 have := h.holder x hx
 show 0 ≤ x.h + 1 ∧ x.h + 1 ≤ 256
 omega
open Go.Pv Go.Pv.Sha
set_option maxRecDepth 100000
set_option maxHeartbeats 4000000
theorem j6y (x y : Int) (hx : 0 ≤ x) (hx2 : x ≤ 1073741788) (hy : 0 ≤ y) (hy2 : y ≤ 1073741788) : (x - y + 1073741789) % 1073741789 = z5e x y := by
 unfold z5e QI
 split <;> omega
theorem y0v (x y : Int) (hx : 0 ≤ x) (hx2 : x ≤ 1073741788) (hy : 0 ≤ y) (hy2 : y ≤ 1073741788) : 0 ≤ z5e x y ∧ z5e x y ≤ 1073741788 := by
 unfold z5e QI
 split <;> omega
theorem z16 (t u : Bool) (r e j : Int) (c k : List Int) (hc : c.length ≤ 100000) (hk : k.length ≤ 100000) (d : List (BitVec 8)) (hd : d.length = 32) (h : q6f r e j c k = true) (st : q5d) :
  Rets P F.q2i [k78 r e j (q5k t c) d, q5k u k] st (.tuple [q5k false (q66 c k), .int 0]) := by
 refine H.q2i.view q5n rfl rfl ?_
 have hC := fun st => k9u r e j t c hc d st
 have hK := fun st => k3p u k hk st
 simp only [q6f, Bool.and_eq_true, decide_eq_true_eq] at h
 obtain ⟨⟨h1, h2⟩, h3⟩ := h
 have h4 : q7c c 1073741788 = true := by
  unfold chk at h1
  simp only [Bool.and_eq_true] at h1
  exact h1.2
 have hcb := q58 h4
 have hkb := q58 h2
 have hcl := k3r h4
 rw [h1, if_pos rfl] at hC
 rw [h2] at hK
 have hdl : (q5e d).length = 32 := by simp [hd]
 have htk : List.take 32 (q5e d) = q5e d := List.take_of_length_le (by omega)
 clear h1 h2 h4
 repeat' (first 
  | (with_reducible refine Fresh.intro fun b hb => ?_) <;> (try simp -dsimp -implicitDefEqProofs [*] at hb)
  | (with_reducible refine Rets.xcall (hC _) ?_)
  | (with_reducible refine Rets.xcall (hK _) ?_)
  | (simp -dsimp -implicitDefEqProofs [-q5f, *]))
 have hns := hb
 refine q5g (fun y : Nat × Option (Acc Int) => [(1, q5k u k), (2, .ptr b 0), (6, k1p y.2), (7, .int (y.1 : Nat))]) (fun y => q6o T.int ((b, .arr T.apiSealed (.int r :: .int e :: .int j :: q5k t c :: q5e d)) :: st) y.2) (fun y => y.1 ≤ c.length ∧ accOk q6j 1 ((b, .arr T.apiSealed (.int r :: .int e :: .int j :: q5k t c :: q5e d)) :: st) y.2 ∧ q5y y.2 = (q66 c k).take y.1) (fun y => c.length - y.1) (0, none) ⟨by omega, trivial, rfl⟩ (by simp) (.refl _) ?_
 rintro ⟨i, o⟩ ⟨hi, ho, hol⟩
 simp only at hi ho hol
 have kl : Hid (q5y o = (q66 c k).take i) := ⟨hol⟩
 clear hol
 by_cases hil : i < c.length
 ·have hik : i < k.length := by omega
  have hg := q6d c i hil
  have hg2 := q6d k i hik
  have hwi := q5h (n := i) (by omega)
  have hz : i < (q66 c k).length := by rw [z5g h3]; omega
  have kT : Hid ((q66 c k).take (i + 1) = (q66 c k).take i ++ [z5e c[i] k[i]]) := ⟨by rw [List.take_succ_eq_append_getElem hz]; simp [q66]⟩
  have kn : Hid ((q5y o).length ≤ 100000) := ⟨by rw [kl.out, List.length_take]; omega⟩
  have b1 := hcb _ (List.getElem_mem hil)
  have b2 := hkb _ (List.getElem_mem hik)
  have eL := j6y c[i] k[i] b1.1 b1.2 b2.1 b2.2
  have bL := y0v c[i] k[i] b1.1 b1.2 b2.1 b2.2
  clear hcb hkb
  have w1 : IntKind.i64.wrap (c[i] - k[i]) = c[i] - k[i] := q5m (by omega) (by omega)
  have w2 : IntKind.i64.wrap (c[i] - k[i] + 1073741789) = c[i] - k[i] + 1073741789 := q5m (by omega) (by omega)
  have tm : (c[i] - k[i] + 1073741789).tmod 1073741789 = z5e c[i] k[i] := by rw [Int.tmod_eq_emod_of_nonneg (by omega)]; exact eL
  have w3 : IntKind.i64.wrap (z5e c[i] k[i]) = z5e c[i] k[i] := q5m (by omega) (by omega)
  clear b1 b2 eL bL
  have hgb := k8h (T := T.int) ho (b := b) (x := .arr T.apiSealed (.int r :: .int e :: .int j :: q5k t c :: q5e d)) (by simp)
  repeat' (simp -dsimp -implicitDefEqProofs [-q5f, *])
  refine DrawLate.by (Cls (q6o T.int ((b, .arr T.apiSealed (.int r :: .int e :: .int j :: q5k t c :: q5e d)) :: st) o) (accB o)) (Cls.self _ _) ?_
  repeat' (simp -dsimp -implicitDefEqProofs [-q5f, *])
  refine q6t k34 k0j o ho [z5e c[i] k[i]] rfl rfl (by have := kn.out; omega) fun o' ho' hl' => ?_
  have kl' : Hid (q5y o' = (q66 c k).take (i + 1)) := ⟨by rw [hl', kl.out, kT.out]⟩
  clear hl' kl kT
  refine ⟨Cls.trans' (j8k o) (q9m ho' (Cls.self _ _)), ?_⟩
  repeat' (simp -dsimp -implicitDefEqProofs [-q5f, *])
  exact Next.intro (i + 1, o') ⟨by simp only; omega, ho', kl'.out⟩ (by simp only; omega) (by simp) q5q
 ·have e : i = c.length := by omega
  have kl' : Hid (q5y o = q66 c k) := ⟨by rw [kl.out]; exact List.take_of_length_le (by rw [z5g h3]; omega)⟩
  subst e
  clear kl hcb hkb
  repeat' (simp -dsimp -implicitDefEqProofs [-q5f, *])
  exact RetView.accP2 rfl ho (.drop (.fresh hns) ⟨by rw [kl'.out], rfl⟩)
theorem y0w {r e j : Nat} {m k : List Nat} {x : ByteArray} (h : Fit r e j m k x) : (k77 r e j m k x).length ≤ 900000 := by
 have hB := k12 (parts r e j m k x) (q95 (Q := fun v => v.B.length ≤ 2000) (by have := k0k r h.hr; omega) (by have := k0k e h.he; omega) (by have := k0k j h.hj; omega) (k3o m h.m1 h.hm) (k3o k h.k1 h.hk) ((k8j 0 (by omega) _ h.hx .nil).B))
 have h2 := q62 (n := (parts r e j m k x).length) (by simp [parts])
 show (3#8 :: (k0z (parts r e j m k x).length ++ (parts r e j m k x).flatMap Wv.B)).length ≤ 900000
 rw [List.length_cons, List.length_append]
 simp only [parts, List.length_cons, List.length_nil] at hB h2 ⊢
 omega
theorem j6z {r e j : Int} {m k : List Int} (h : Right r e j m k) {salt : List (BitVec 8)} (hs : salt.length = 32) : (y2o r e j m k salt).length ≤ 900000 := y0w (h.fit hs)
theorem z17 (t u : Bool) (r e j : Int) (c k : List Int) (hc : c.length ≤ 100000) (hk : k.length ≤ 100000) (d : List (BitVec 8)) (hd : d.length = 32) (h : q6f r e j c k = false) (st : q5d) :
  Rets P F.q2i [k78 r e j (q5k t c) d, q5k u k] st (.tuple [.nil, .int 340]) := by
 refine H.q2i.pure q5n rfl rfl ?_
 have hC := fun st => k9u r e j t c hc d st
 have hK := fun st => k3p u k hk st
 unfold q6f at h
 have hdl : (q5e d).length = 32 := by simp [hd]
 have htk : List.take 32 (q5e d) = q5e d := List.take_of_length_le (by omega)
 generalize chk r e j c = A at *
 generalize q7c k 1073741788 = B at *
 cases A
 ·repeat' (first 
   | (with_reducible refine Fresh.intro fun b hb => ?_) <;> (try simp -dsimp -implicitDefEqProofs [*] at hb)
   | (with_reducible refine Rets.xcall (hC _) ?_)
   | (simp -dsimp -implicitDefEqProofs [*]))
 cases B
 ·repeat' (first 
   | (with_reducible refine Fresh.intro fun b hb => ?_) <;> (try simp -dsimp -implicitDefEqProofs [*] at hb)
   | (with_reducible refine Rets.xcall (hC _) ?_)
   | (with_reducible refine Rets.xcall (hK _) ?_)
   | (simp -dsimp -implicitDefEqProofs [*]))
 ·have h' : ¬ k.length = c.length := by simpa using h
  clear h
  have h8 : ¬ (k.length : Int) = (c.length : Int) := by omega
  repeat' (first 
   | (with_reducible refine Fresh.intro fun b hb => ?_) <;> (try simp -dsimp -implicitDefEqProofs [*] at hb)
   | (with_reducible refine Rets.xcall (hC _) ?_)
   | (with_reducible refine Rets.xcall (hK _) ?_)
   | (simp -dsimp -implicitDefEqProofs [*]))
theorem z3x (t u : Bool) (r e j : Int) (c k : List Int) (hc : c.length ≤ 100000) (hk : k.length ≤ 100000) (d : List (BitVec 8)) (hd : d.length = 32) (st : q5d) :
  Rets P F.q3a [k78 r e j (q5k t c) d, q5k u k] st (.tuple [k22 (q8d r e j c k), .int (j43 (q8d r e j c k))]) := by
 refine H.q3a.pure q5n rfl rfl ?_
 have hB1 := fun (h : q6f r e j c k = true) st => z16 t u r e j c k hc hk d hd h st
 have hB2 := fun (h : q6f r e j c k = false) st => z17 t u r e j c k hc hk d hd h st
 have hM := fun st => k6a false (q66 c k) (k8m hk) st
 have hdl : (q5e d).length = 32 := by simp [hd]
 have htk : List.take 32 (q5e d) = q5e d := List.take_of_length_le (by omega)
 generalize hR : PV.tuple [k22 (q8d r e j c k), .int (j43 (q8d r e j c k))] = R
 unfold q8d at hR
 generalize q6f r e j c k = A at *
 generalize q66 c k = M at *
 generalize q7c M 1000 = B at *
 cases A
 ·have hB := hB2 rfl
  clear hB1 hB2
  have hR' : R = .tuple [.nil, .int 340] := hR.symm
  clear hR
  subst hR'
  repeat' (first 
   | (with_reducible refine Fresh.intro fun b hb => ?_) <;> (try simp -dsimp -implicitDefEqProofs [*] at hb)
   | (with_reducible refine Rets.xcall (hB _) ?_)
   | (simp -dsimp -implicitDefEqProofs [*]))
 have hB := hB1 rfl
 clear hB1 hB2
 cases B
 ·have hR' : R = .tuple [.nil, .int 340] := hR.symm
  clear hR
  subst hR'
  repeat' (first 
   | (with_reducible refine Fresh.intro fun b hb => ?_) <;> (try simp -dsimp -implicitDefEqProofs [*] at hb)
   | (with_reducible refine Rets.xcall (hB _) ?_)
   | (with_reducible refine Rets.xcall (hM _) ?_)
   | (simp -dsimp -implicitDefEqProofs [*]))
 ·have hR' : R = .tuple [q5k false M, .int 0] := hR.symm
  clear hR
  subst hR'
  repeat' (first 
   | (with_reducible refine Fresh.intro fun b hb => ?_) <;> (try simp -dsimp -implicitDefEqProofs [*] at hb)
   | (with_reducible refine Rets.xcall (hB _) ?_)
   | (with_reducible refine Rets.xcall (hM _) ?_)
   | (simp -dsimp -implicitDefEqProofs [*]))
theorem k71 (t u : Bool) (r e j : Int) (c k : List Int) (hc : c.length ≤ 100000) (hk : k.length ≤ 100000) (d salt : List (BitVec 8)) (hd : d.length = 32) (hs : salt.length = 32) (st : q5d) :
  Rets P F.q2h [k78 r e j (q5k t c) d, q5k u k, .agg (q5e salt)] st (.tuple [k22 (k4c r e j c d k salt), .bool (k4c r e j c d k salt).isSome, .int (if q6f r e j c k then 0 else 340)]) := by
 refine H.q2h.pure q5n rfl rfl ?_
 have hB1 := fun (h : q6f r e j c k = true) st => z16 t u r e j c k hc hk d hd h st
 have hB2 := fun (h : q6f r e j c k = false) st => z17 t u r e j c k hc hk d hd h st
 have hM := fun st => k6a false (q66 c k) (k8m hk) st
 have hdl : (q5e d).length = 32 := by simp [hd]
 have htk : List.take 32 (q5e d) = q5e d := List.take_of_length_le (by omega)
 have hsl : (q5e salt).length = 32 := by simp [hs]
 have hts : List.take 32 (q5e salt) = q5e salt := List.take_of_length_le (by omega)
 have hC := fun (h2 : q6f r e j c k = true) (h3 : q7c (q66 c k) 1000 = true) => (by
  simp only [q6f, chk, Bool.and_eq_true] at h2
  exact ⟨h2.1.1.1, h3, h2.1.2⟩ : Right r e j (q66 c k) k)
 have hT := fun (h : Right r e j (q66 c k) k) st => j6k false u salt hs h st
 have hG : ∀ (h : Right r e j (q66 c k) k) st, Rets P F.q21 [.val (.string ⟨#[99, 97, 114, 100]⟩), q5s false (y2o r e j (q66 c k) k salt)] st (.agg (q5e (j42 r e j (q66 c k) k salt))) := fun h st => z0p q7v (by decide) false (y2o r e j (q66 c k) k salt) (j6z h hs) st
 have hQ := k6c (j42 r e j (q66 c k) k salt) d rfl hd
 generalize hR : PV.tuple [k22 (k4c r e j c d k salt), .bool (k4c r e j c d k salt).isSome, .int (if q6f r e j c k then 0 else 340)] = R
 unfold k4c at hR
 generalize j42 r e j (q66 c k) k salt = D at *
 generalize y2o r e j (q66 c k) k salt = B0 at *
 generalize q6f r e j c k = A at *
 generalize q66 c k = M at *
 generalize q7c M 1000 = B at *
 cases A
 ·have hB := hB2 rfl
  clear hB1 hB2 hC hT hG
  have hR' : R = .tuple [.nil, .bool false, .int 340] := hR.symm
  clear hR
  subst hR'
  repeat' (first 
   | (with_reducible refine Fresh.intro fun b hb => ?_) <;> (try simp -dsimp -implicitDefEqProofs [*] at hb)
   | (with_reducible refine Rets.xcall (hB _) ?_)
   | (simp -dsimp -implicitDefEqProofs [*]))
 have hB := hB1 rfl
 clear hB1 hB2
 cases B
 ·clear hC hT hG
  have hR' : R = .tuple [.nil, .bool false, .int 0] := hR.symm
  clear hR
  subst hR'
  repeat' (first 
   | (with_reducible refine Fresh.intro fun b hb => ?_) <;> (try simp -dsimp -implicitDefEqProofs [*] at hb)
   | (with_reducible refine Rets.xcall (hB _) ?_)
   | (with_reducible refine Rets.xcall (hM _) ?_)
   | (with_reducible refine DrawLate.intro [] ?_)
   | (simp -dsimp -implicitDefEqProofs [*]))
 ·have hC1 := hC rfl rfl
  have hT1 := hT hC1
  have hG1 := hG hC1
  clear hC hT hG
  simp only [Bool.true_and, if_true] at hR
  have hsub := sub_all hsl
  repeat' (first 
   | (with_reducible refine Fresh.intro fun b hb => ?_) <;> (try simp -dsimp -implicitDefEqProofs [*] at hb)
   | (with_reducible refine Rets.xcall (hB _) ?_)
   | (with_reducible refine Rets.xcall (hM _) ?_)
   | (with_reducible refine Rets.xcall (hT1 _) ?_)
   | (with_reducible refine Rets.xcall (hG1 _) ?_)
   | (with_reducible refine DrawLate.intro [] ?_)
   | (with_reducible refine And.intro (fun h => ?_) (fun h => ?_)) <;> (try (exfalso; omega))
   | (simp -dsimp -implicitDefEqProofs [*]))
  all_goals (rw [← hR]; simp [*, k22])
open Go.Pv
set_option maxRecDepth 100000
set_option maxHeartbeats 8000000
theorem z0z (t u : Bool) (l m : List Int) (hl : l.length ≤ 9223372036854775807) (st : q5d) : Rets P F.q14 [q5k t l, q5k u m] st (.bool (decide (l = m))) := by
 by_cases hlm : l.length = m.length
 case neg =>
  have hne : ¬ l = m := fun e => hlm (by rw [e])
  have hlm2 : ¬ (l.length : Int) = m.length := by omega
  rw [decide_eq_false hne]
  refine H.q14.pure q5n rfl rfl ?_
  repeat' (simp -dsimp -implicitDefEqProofs [*])
 have hlm2 : (l.length : Int) = m.length := by omega
 refine H.q14.view q5n rfl rfl ?_
 obtain ⟨w, hw⟩ : ∃ w, w = decide (l = m) := ⟨_, rfl⟩
 rw [← hw]
 have kw := Hid.mk hw
 clear hw
 repeat' (simp -dsimp -implicitDefEqProofs [*])
 refine q5g (fun n : Nat => [(0, q5k t l), (1, q5k u m), (5, .int n)]) (fun _ => st) (fun n => n ≤ l.length ∧ Hid (∀ j, j < n → ∀ (h : j < l.length) (h2 : j < m.length), l[j] = m[j])) (fun n => l.length - n) 0 ⟨Nat.zero_le _, ⟨fun j h => absurd h (by omega)⟩⟩ (by simp [*]) (.refl _) ?_
 rintro n ⟨hn, hI⟩
 by_cases hnl : n < l.length
 ·have hnm : n < m.length := by omega
  have hwr := q5h (n := n) (by omega)
  have g1 := q6d l n hnl
  have g2 := q6d m n hnm
  by_cases he : l[n] = m[n]
  ·have hI2 : Hid (∀ j, j < n + 1 → ∀ (h : j < l.length) (h2 : j < m.length), l[j] = m[j]) := ⟨fun j hj h h2 => if e : j = n then by subst e; exact he else hI.out j (by omega) h h2⟩
   clear hI kw
   repeat' (simp -dsimp -implicitDefEqProofs [*])
   exact Next.intro (n + 1) ⟨by omega, hI2⟩ (by omega) (by simp [hlm]) q5q
  ·have hw : w = false := by rw [kw.out]; exact decide_eq_false fun e => he (by subst e; rfl)
   subst hw
   clear hI kw
   repeat' (simp -dsimp -implicitDefEqProofs [*])
   exact .same ⟨rfl, rfl⟩
 ·have hw : w = true := by rw [kw.out]; exact decide_eq_true (z89 hlm fun j h h2 => hI.out j (by omega) h h2)
  subst hw
  obtain rfl : n = l.length := by omega
  clear hI kw
  repeat' (simp -dsimp -implicitDefEqProofs [*])
  exact .same ⟨rfl, rfl⟩
theorem q8e (n limit : Int) (st : q5d) : Rets P F.q03 [.int n, .int limit] st (.bool (wiL n limit)) := by
 refine H.q03.pure q5n rfl rfl ?_
 repeat' (first 
  | (with_reducible refine And.intro (fun h => ?_) (fun h => ?_)) <;> (try (exfalso; omega))
  | (simp -dsimp -implicitDefEqProofs [wiL, *]))
 all_goals (intros; omega)
def atI (l : List Int) (n : Int) : Int := k7x (fun x => decide (x = n)) l
theorem z7t (l : List Int) (n : Int) : decide (0 ≤ atI l n) = decide (n ∈ l) := by
 unfold atI
 rw [k6g, Bool.eq_iff_iff]
 simp
theorem k5b (t : Bool) (l : List Int) (hl : l.length ≤ 9223372036854775807) (n : Int) (st : q5d) : Rets P F.q2r [q5k t l, .int n] st (.int (atI l n)) := by
 unfold atI
 refine H.q2r.view q5n rfl rfl ?_
 repeat' (simp -dsimp -implicitDefEqProofs [*])
 refine q5g (fun k : Nat => [(0, q5k t l), (1, .int n), (5, .int k)]) (fun _ => st) (fun k => k ≤ l.length ∧ Hid (∀ j (_ : j < k) (h : j < l.length), decide (l[j] = n) = false)) (fun k => l.length - k) 0 ⟨Nat.zero_le _, ⟨fun j h => absurd h (by omega)⟩⟩ (by simp) (.refl _) ?_
 rintro k ⟨hk, hI⟩
 by_cases hkl : k < l.length
 ·have hwr := q5h (n := k) (by omega)
  have g1 := q6d l k hkl
  by_cases he : l[k] = n
  ·have e := q9q (p := fun x : Int => decide (x = n)) hkl (fun i hi => hI.out i hi (by omega)) (decide_eq_true he)
   rw [e]
   clear hI e
   repeat' (simp -dsimp -implicitDefEqProofs [*])
   exact .same ⟨rfl, rfl⟩
  ·have hI2 : Hid (∀ j (_ : j < k + 1) (h : j < l.length), decide (l[j] = n) = false) := ⟨fun j hj h => if e : j = k then by subst e; exact decide_eq_false he else hI.out j (by omega) h⟩
   clear hI
   repeat' (simp -dsimp -implicitDefEqProofs [*])
   exact Next.intro (k + 1) ⟨by omega, hI2⟩ (by omega) (by simp) q5q
 ·obtain rfl : k = l.length := by omega
  rw [k02 fun i hi => hI.out i hi hi]
  clear hI
  repeat' (simp -dsimp -implicitDefEqProofs [*])
  exact .same ⟨rfl, rfl⟩
def j60 (s : Ses) (j : Int) : Int := k7x (fun x => decide (x.j = j)) s.sealed
theorem z18 (s : Ses) (hl : s.sealed.length ≤ 1024) (j : Int) (st : q5d) : Rets P F.q3m [s.pv, .int j] st (.int (j60 s j)) := by
 unfold j60
 refine H.q3m.view q5n rfl rfl ?_
 repeat' (first 
  | (with_reducible refine Fresh.intro fun b hb => ?_) <;> (try simp -dsimp -implicitDefEqProofs [*] at hb)
  | (simp -dsimp -implicitDefEqProofs [*]))
 revert b; intro q hq
 refine q5g (fun k : Nat => [(1, .int j), (2, .ptr q 0), (5, .int k)]) (fun _ => (q, .arr T.apiSession s.enc) :: st) (fun k => k ≤ s.sealed.length ∧ Hid (∀ i (_ : i < k) (h : i < s.sealed.length), decide (s.sealed[i].j = j) = false)) (fun k => s.sealed.length - k) 0 ⟨Nat.zero_le _, ⟨fun j h => absurd h (by omega)⟩⟩ (by simp) (.refl _) ?_
 rintro k ⟨hk, hI⟩
 by_cases hkl : k < s.sealed.length
 ·have hwr := q5h (n := k) (by omega)
  have g1 := Card.row_get2 s.sealed k hkl
  have G1 : ∀ h, (Card.row s.sealed)[k * 36 + 2]'h = .int s.sealed[k].j := fun h => by have := List.getElem?_eq_getElem h; rw [g1] at this; exact (Option.some.inj this).symm
  have hk2 : k * 36 + 2 < s.sealed.length * 36 := by omega
  by_cases he : s.sealed[k].j = j
  ·have e := q9q (p := fun x : Card => decide (x.j = j)) hkl (fun i hi => hI.out i hi (by omega)) (decide_eq_true he)
   rw [e]
   clear hI e
   repeat' (simp -dsimp -implicitDefEqProofs [*])
   exact RetView.drop (st' := st) q5q ⟨rfl, rfl⟩
  ·have hI2 : Hid (∀ i (_ : i < k + 1) (h : i < s.sealed.length), decide (s.sealed[i].j = j) = false) := ⟨fun i hi h => if e : i = k then by subst e; exact decide_eq_false he else hI.out i (by omega) h⟩
   clear hI
   repeat' (simp -dsimp -implicitDefEqProofs [*])
   exact Next.intro (k + 1) ⟨by omega, hI2⟩ (by omega) (by simp) q5q
 ·obtain rfl : k = s.sealed.length := by omega
  rw [k02 fun i hi => hI.out i hi hi]
  clear hI
  repeat' (simp -dsimp -implicitDefEqProofs [*])
  exact RetView.drop (st' := st) q5q ⟨rfl, rfl⟩
theorem z19 (s : Ses) (st : q5d) : Rets P F.q3l [s.pv] st (.bool (q8j s)) := by
 refine H.q3l.pure q5n rfl rfl ?_
 repeat' (first 
  | (with_reducible refine Fresh.intro fun b hb => ?_) <;> (try simp -dsimp -implicitDefEqProofs [*] at hb)
  | (with_reducible refine And.intro (fun h => ?_) (fun h => ?_)) <;> (try (exfalso; omega))
  | (simp -dsimp -implicitDefEqProofs [q8j, *]))
 all_goals (intros; omega)
theorem z5q (x y : Sh) (st : q5d) : Rets P F.q09 [x.pv, y.pv] st (.bool (decide (q98 x y < 0))) := by
 by_cases h1 : x.o = y.o
 ·by_cases h2 : x.c = y.c
  ·by_cases h3 : x.h < y.h
   ·rw [show decide (q98 x y < 0) = true from decide_eq_true (q9s.2 (by omega))]
    refine H.q09.pure q5n rfl rfl ?_
    repeat' (first 
     | (with_reducible refine Fresh.intro fun b hb => ?_) <;> (try simp -dsimp -implicitDefEqProofs [*] at hb)
     | (simp -dsimp -implicitDefEqProofs [*]))
   ·rw [show decide (q98 x y < 0) = false from decide_eq_false (fun h => by have := q9s.1 h; omega)]
    refine H.q09.pure q5n rfl rfl ?_
    repeat' (first 
     | (with_reducible refine Fresh.intro fun b hb => ?_) <;> (try simp -dsimp -implicitDefEqProofs [*] at hb)
     | (simp -dsimp -implicitDefEqProofs [*]))
  ·by_cases h3 : x.c < y.c
   ·rw [show decide (q98 x y < 0) = true from decide_eq_true (q9s.2 (by omega))]
    refine H.q09.pure q5n rfl rfl ?_
    repeat' (first 
     | (with_reducible refine Fresh.intro fun b hb => ?_) <;> (try simp -dsimp -implicitDefEqProofs [*] at hb)
     | (simp -dsimp -implicitDefEqProofs [*]))
   ·rw [show decide (q98 x y < 0) = false from decide_eq_false (fun h => by have := q9s.1 h; omega)]
    refine H.q09.pure q5n rfl rfl ?_
    repeat' (first 
     | (with_reducible refine Fresh.intro fun b hb => ?_) <;> (try simp -dsimp -implicitDefEqProofs [*] at hb)
     | (simp -dsimp -implicitDefEqProofs [*]))
 ·by_cases h3 : x.o < y.o
  ·rw [show decide (q98 x y < 0) = true from decide_eq_true (q9s.2 (by omega))]
   refine H.q09.pure q5n rfl rfl ?_
   repeat' (first 
    | (with_reducible refine Fresh.intro fun b hb => ?_) <;> (try simp -dsimp -implicitDefEqProofs [*] at hb)
    | (simp -dsimp -implicitDefEqProofs [*]))
  ·rw [show decide (q98 x y < 0) = false from decide_eq_false (fun h => by have := q9s.1 h; omega)]
   refine H.q09.pure q5n rfl rfl ?_
   repeat' (first 
    | (with_reducible refine Fresh.intro fun b hb => ?_) <;> (try simp -dsimp -implicitDefEqProofs [*] at hb)
    | (simp -dsimp -implicitDefEqProofs [*]))
open Go.Pv
set_option maxRecDepth 100000
set_option maxHeartbeats 16000000
theorem z7u : zeroSes.Len := ⟨by simp [zeroSes], by simp [zeroSes], by simp [zeroSes], by simp [zeroSes], by simp [zeroSes], by simp [zeroSes], by simp [zeroSes], by simp [zeroSes]⟩
theorem k05 (t u : Bool) (l : List Opd) (hl : l.length ≤ 100000) (hm : ∀ x ∈ l, x.marks.length ≤ 9223372036854775807) (st : q5d) : Rets P F.q05 [Opd.lst t l, Opd.lst u l] st (.bool true) := by
 have cS : Hid (∀ n (h : n < l.length) st, Rets P F.q14 [q5k false l[n].marks, q5k false l[n].marks] st (.bool true)) := ⟨fun n h st => by
  have := z0z false false l[n].marks l[n].marks (hm _ (List.getElem_mem h)) st
  rwa [decide_eq_true rfl] at this⟩
 clear hm
 refine H.q05.view q5n rfl rfl ?_
 repeat' (simp -dsimp -implicitDefEqProofs [*])
 refine q5g (fun n : Nat => [(0, Opd.lst t l), (1, Opd.lst u l), (5, .int n)]) (fun _ => st) (fun n => n ≤ l.length) (fun n => l.length - n) 0 (Nat.zero_le _) (by simp) (.refl _) ?_
 intro n hn
 by_cases hnl : n < l.length
 ·have hw := q5h (n := n) (by omega)
  have g0 := Opd.row_get0 l n hnl
  have g1 := Opd.row_get1 l n hnl
  have c1 := cS.out n hnl
  obtain ⟨x, hx⟩ : ∃ x, x = l[n] := ⟨_, rfl⟩
  rw [← hx] at g0 g1 c1
  have G0 : ∀ h, (Opd.row l)[n * 2]'h = .int x.how := fun h => by have := List.getElem?_eq_getElem h; rw [g0] at this; exact (Option.some.inj this).symm
  have G1 : ∀ h, (Opd.row l)[n * 2 + 1]'h = q5k false x.marks := fun h => by have := List.getElem?_eq_getElem h; rw [g1] at this; exact (Option.some.inj this).symm
  have b0 : n * 2 < l.length * 2 := by omega
  have b1 : n * 2 + 1 < l.length * 2 := by omega
  clear hx cS
  repeat' (first 
   | (with_reducible refine Rets.xcall (c1 _) ?_)
   | (with_reducible refine DrawLate.intro [] ?_)
   | (simp -dsimp -implicitDefEqProofs [*]))
  exact Next.intro (n + 1) (by omega) (by omega) (by simp) q5q
 ·obtain rfl : n = l.length := by omega
  clear cS
  repeat' (simp -dsimp -implicitDefEqProofs [*])
  exact .same ⟨rfl, rfl⟩
end Go.Proofs.YtnooplpbpfiapaaGreatDoor
