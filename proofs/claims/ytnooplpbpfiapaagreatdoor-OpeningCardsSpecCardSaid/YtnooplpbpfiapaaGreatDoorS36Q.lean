/- Commitments as values, by the program. -/
import Derived.Test.YtnooplpbpfiapaaGreatDoorS36K
namespace Go.Proofs.YtnooplpbpfiapaaGreatDoor
open Go.Pv Go.Pv.Sha
set_option maxRecDepth 100000
set_option maxHeartbeats 4000000
abbrev k2n (l : List Wv) : List PV := l.flatMap Wv.row
theorem k01 (l : List Wv) : (k2n l).length = l.length * 4 := q6h (enc := Wv.row) (k := 4) (fun _ => rfl) l
theorem q96 (l m : List Wv) : k2n (l ++ m) = k2n l ++ k2n m := by simp [k2n]
abbrev k1m (l : List Nat) : List PV := l.map fun n : Nat => .iface T.int (.int (n : Int))
inductive Item : PV → Wv → Prop
 | int (n : Nat) : Item (.iface T.int (.int (n : Int))) (q97 n)
 | text (x : ByteArray) : Item (.iface T.string (.str x)) (j0i x)
 | ints (t : Bool) (l : List Nat) (h0 : 0 < l.length) (hl : l.length ≤ 100) (h : ∀ st, Rets P F.q3i [.list false (k1m l) l.length] st (.agg (k2y l).row)) : Item (.iface T.Lint (.list t (l.map fun n : Nat => .int (n : Int)) l.length)) (k2y l)
theorem z68 (l : List Nat) : (k1m l).length = l.length * 1 := by simp [k1m]
theorem z0t (l m : List Nat) : k1m (l ++ m) = k1m l ++ k1m m := by simp [k1m]
theorem Cls.sub {st0 st : q5d} {M M' : List Nat} (h : Cls st0 M st) (hs : ∀ c ∈ M, c ∈ M') : Cls st0 M' st := fun c hc => h c fun hm => hc (hs c hm)
theorem Cls.trans' {a b c : q5d} {M : List Nat} (h : Cls a M b) (k : Cls b M c) : Cls a M c := fun x hx o ho => k x hx o (h x hx o ho)
theorem j8k {α : Type} {T : TypeId} {st : q5d} (o : Option (Acc α)) : Cls (q6o T st o) (accB o) st := by
 cases o with
 | none => exact Cls.self _ _
 | some a =>
  intro c hc y hy
  have h : ¬ c = a.b := by simpa [accB] using hc
  have h2 : ¬ a.b = c := fun e => h e.symm
  simpa [q6o, q5w, h, h2] using hy
theorem k9r (t : Bool) (l : List (PV × Wv)) (h0 : 0 < l.length) (h1 : l.length ≤ 100) (hI : ∀ x ∈ l, Item x.1 x.2) (st : q5d) : Rets P F.q3i [.list t (l.map (·.1)) l.length] st (.agg (z5c (l.map (·.2))).row) := by
 refine H.q3i.view q5n rfl rfl ?_
 repeat' (first 
  | (with_reducible refine Fresh.intro fun b hb => ?_) <;> (try simp -dsimp -implicitDefEqProofs [*] at hb)
  | (simp -dsimp -implicitDefEqProofs [-q5f, *]))
 refine q5g (fun y : Nat × Option (Acc Wv) => [(2, .ptr b 0), (12, .list t (l.map (·.1)) l.length), (13, .int l.length), (14, .int (y.1 : Nat))]) (fun y => (b, .arr T.apiValue [.int 3, .int 0, q7u, k1p y.2]) :: q6o T.apiValue st y.2) (fun y => y.1 ≤ l.length ∧ accOk k2n 4 st y.2 ∧ q6u (q6o T.apiValue st y.2) b ∧ q5y y.2 = (l.take y.1).map (·.2)) (fun y => l.length - y.1) (0, none) ⟨by omega, trivial, by simpa using ‹q6u st b›, rfl⟩ (by simp) (.refl _) ?_
 rintro ⟨i, o⟩ ⟨hi, ho, hb', hol⟩
 simp only at hi ho hb' hol
 have kl : Hid (q5y o = (l.take i).map (·.2)) := ⟨hol⟩
 clear hol
 by_cases hil : i < l.length
 ·have hit := hI l[i] (List.getElem_mem hil)
  have hg : (l.map (·.1))[i]? = some l[i].1 := by simp [hil]
  have hwi := q5h (n := i) (by omega)
  have kT : Hid ((l.take (i + 1)).map (·.2) = (l.take i).map (·.2) ++ [l[i].2]) := ⟨by rw [List.take_succ_eq_append_getElem hil, List.map_append]; rfl⟩
  have hlen : (l.map (·.1)).length = l.length := by simp
  have kn : Hid (((q5y o).length + 1) * 56 ≤ 140737488355328) := ⟨by rw [kl.out, List.length_map, List.length_take]; omega⟩
  have ne1 : ¬ T.string = T.int := by decide
  have ne2 : ¬ T.Lint = T.int := by decide
  have ne3 : ¬ T.string = T.Lint := by decide
  clear hI
  generalize l.map (·.1) = ps at *
  have hgE : ∀ h : i < ps.length, ps[i]'h = l[i].1 := fun h => by rw [List.getElem?_eq_getElem h] at hg; exact Option.some.inj hg
  generalize l[i].1 = p at *
  generalize l[i].2 = w at *
  cases hit with
  | int n =>
   repeat' (first 
    | (with_reducible refine Lit.imm ?_)
    | (simp -dsimp -implicitDefEqProofs [-q5f, *]))
   refine xappend_box k01 q96 o ho hb' [q97 n] rfl rfl (by omega) (by have := kn.out; omega) fun o' ho' hol' => ?_
   have kl' : Hid (q5y o' = (l.take (i + 1)).map (·.2)) := ⟨by rw [hol', kl.out, kT.out]⟩
   clear hol' kl kT kn
   cases o' with
   | none => exact absurd (congrArg List.length kl'.out) (by simp; omega)
   | some a =>
    simp only [k10, q8q, q9l, q7z] at ho' kl' ⊢
    obtain ⟨ha, hab⟩ := ho'
    have hns := (accB_new hb').2
    clear hb' ho
    obtain ⟨⟨hab1, hab2⟩, hab3⟩ := hab
    repeat' (simp -dsimp -implicitDefEqProofs [-q5f, *])
    exact Next.intro (i + 1, some a) ⟨by simp only; omega, ⟨ha, hab3⟩, ⟨⟨hab2, hab1⟩, hns⟩, kl'.out⟩ (by simp only; omega) (by simp) q5q
  | text x =>
   repeat' (first 
    | (with_reducible refine Lit.imm ?_)
    | (simp -dsimp -implicitDefEqProofs [-q5f, *]))
   refine xappend_box k01 q96 o ho hb' [j0i x] rfl rfl (by omega) (by have := kn.out; omega) fun o' ho' hol' => ?_
   have kl' : Hid (q5y o' = (l.take (i + 1)).map (·.2)) := ⟨by rw [hol', kl.out, kT.out]⟩
   clear hol' kl kT kn
   cases o' with
   | none => exact absurd (congrArg List.length kl'.out) (by simp; omega)
   | some a =>
    simp only [k10, q8q, q9l, q7z] at ho' kl' ⊢
    obtain ⟨ha, hab⟩ := ho'
    have hns := (accB_new hb').2
    clear hb' ho
    obtain ⟨⟨hab1, hab2⟩, hab3⟩ := hab
    repeat' (simp -dsimp -implicitDefEqProofs [-q5f, *])
    exact Next.intro (i + 1, some a) ⟨by simp only; omega, ⟨ha, hab3⟩, ⟨⟨hab2, hab1⟩, hns⟩, kl'.out⟩ (by simp only; omega) (by simp) q5q
  | ints u m hm0 hm hr =>
   repeat' (simp -dsimp -implicitDefEqProofs [-q5f, *])
   obtain ⟨hnb, hns⟩ := accB_new hb'
   have hgb : q5w ((b, .arr T.apiValue [.int 3, .int 0, q7u, k1p o]) :: q6o T.apiValue st o) b = some (.arr T.apiValue [.int 3, .int 0, q7u, k1p o]) := by simp
   generalize hST : (b, PObj.arr T.apiValue [.int 3, .int 0, q7u, k1p o]) :: q6o T.apiValue st o = ST at *
   refine q5g (fun y : Nat × Option (Acc Nat) => [(2, .ptr b 0), (12, .list t ps l.length), (13, .int l.length), (14, .int (i : Nat)), (7, k1p y.2), (32, .list u (m.map fun n : Nat => .int (n : Int)) m.length), (33, .int m.length), (34, .int (y.1 : Nat))]) (fun y => q6o T.interface ST y.2) (fun y => y.1 ≤ m.length ∧ accOk k1m 1 ST y.2 ∧ q5y y.2 = m.take y.1) (fun y => m.length - y.1) (0, none) ⟨by omega, trivial, rfl⟩ (by simp) (.refl _) ?_
   rintro ⟨j, q⟩ ⟨hj, hq, hql⟩
   simp only at hj hq hql
   have kq : Hid (q5y q = m.take j) := ⟨hql⟩
   clear hql
   by_cases hjm : j < m.length
   ·have hg2 : (m.map fun n : Nat => PV.int (n : Int))[j]? = some (.int (m[j] : Nat)) := by simp [hjm]
    have hwj := q5h (n := j) (by omega)
    have kT2 : Hid (m.take (j + 1) = m.take j ++ [m[j]]) := ⟨List.take_succ_eq_append_getElem hjm⟩
    have hlen2 : (m.map fun n : Nat => PV.int (n : Int)).length = m.length := by simp
    generalize (m.map fun n : Nat => PV.int (n : Int)) = ms at *
    have hgE2 : ∀ h : j < ms.length, ms[j]'h = .int (m[j] : Nat) := fun h => by rw [List.getElem?_eq_getElem h] at hg2; exact Option.some.inj hg2
    generalize m[j] = v at *
    have hn2 : Hid (((q5y q).length + 1) * 16 ≤ 140737488355328) := ⟨by rw [kq.out, List.length_take]; omega⟩
    repeat' (first 
     | (with_reducible refine Lit.imm ?_)
     | (simp -dsimp -implicitDefEqProofs [-q5f, *]))
    refine q6t z68 z0t q hq [v] rfl rfl (by have := hn2.out; simpa using this) fun q' hq' hl' => ?_
    have kq' : Hid (q5y q' = m.take (j + 1)) := ⟨by rw [hl', kq.out, kT2.out]⟩
    clear hl' kq kT2
    repeat' (simp -dsimp -implicitDefEqProofs [-q5f, *])
    exact Next.intro (j + 1, q') ⟨by simp only; omega, hq', kq'.out⟩ (by simp only; omega) (by simp) q5q
   ·have e : j = m.length := by omega
    subst e
    rw [List.take_length] at kq
    cases q with
    | none => exact absurd (congrArg List.length kq.out) (by simp; omega)
    | some z =>
    simp only [q9l, q7z] at hq kq
    obtain ⟨hz, hzb⟩ := hq
    have hbz : ¬ b = z.b := (q6m hzb hgb).2
    have hbz2 : ¬ z.b = b := (q6m hzb hgb).1
    have hM : ¬ b ∈ z.b :: accB o := by simp [hbz, hnb]
    repeat' (simp -dsimp -implicitDefEqProofs [-q5f, *])
    refine DrawLate.by (Cls ((z.b, .arr T.interface z.R) :: ST) (z.b :: accB o)) (Cls.self _ _) ?_
    have kr : Hid (∀ st, Rets P F.q3i [.list false (k1m z.l) z.l.length] st (.agg [.int 3, .int 0, q7u, .list false ((m.map q97).flatMap Wv.row) (m.map q97).length])) := ⟨by rw [kq.out]; exact hr⟩
    have kw : Hid ([.int 3, .int 0, q7u, .list false ((m.map q97).flatMap Wv.row) (m.map q97).length] = k2n [k2y m]) := ⟨rfl⟩
    clear hr
    generalize (m.map q97).flatMap Wv.row = wr at *
    generalize (m.map q97).length = wn at *
    repeat' (simp -dsimp -implicitDefEqProofs [-q5f, *])
    refine k51 hzb (.refl _) (.cons (Frz.acc hz) .nil) (kr.out _) ?_
    rw [q7m]
    have hc1 : Cls ((z.b, .arr T.interface z.R) :: ST) (z.b :: accB o) ST := Cls.sub (j8k (T := T.interface) (some z)) (by simp [accB])
    refine ⟨hc1, ?_⟩
    subst hST
    repeat' (simp -dsimp -implicitDefEqProofs [-q5f, *])
    refine xappend_box k01 q96 o ho hb' [k2y m] kw.out.symm rfl (by omega) (by have := kn.out; omega) fun o' ho' hol' => ?_
    refine ⟨Cls.trans' hc1 (q9m ho' (Cls.sub (Cls_box o) (fun c hc => List.mem_cons_of_mem _ hc))), ?_⟩
    have kl' : Hid (q5y o' = (l.take (i + 1)).map (·.2)) := ⟨by rw [hol', kl.out, kT.out]⟩
    clear hol' kl kT kn hc1 kr kw
    cases o' with
    | none => exact absurd (congrArg List.length kl'.out) (by simp; omega)
    | some a =>
     simp only [k10, q8q, q9l, q7z] at ho' kl' ⊢
     obtain ⟨ha, hab⟩ := ho'
     clear hb' ho
     obtain ⟨⟨hab1, hab2⟩, hab3⟩ := hab
     repeat' (simp -dsimp -implicitDefEqProofs [-q5f, *])
     exact Next.intro (i + 1, some a) ⟨by simp only; omega, ⟨ha, hab3⟩, ⟨⟨hab2, hab1⟩, hns⟩, kl'.out⟩ (by simp only; omega) (by simp) q5q
 ·have e : i = l.length := by omega
  subst e
  repeat' (simp -dsimp -implicitDefEqProofs [-q5f, *])
  rw [List.take_length] at kl
  cases o with
  | none => exact absurd (congrArg List.length kl.out) (by simp; omega)
  | some a =>
   simp only [q9l, q7z] at ho kl
   refine .fresh1 hb' (RetView.freeze (.agg [.int 3, .int 0, q7u, .list false (k2n a.l) a.l.length]) ho.2 (.agg (.cons (.refl _) (.cons (.refl _) (.cons (.refl _) (.cons (Frz.acc ho.1) .nil))))) (.same ⟨?_, rfl⟩))
   rw [kl.out]
   rfl
open Go.Pv Go.Pv.Sha
set_option maxRecDepth 100000
set_option maxHeartbeats 4000000
theorem z1z (l : List Nat) (h0 : 0 < l.length) (h1 : l.length ≤ 100) (st : q5d) : Rets P F.q3i [.list false (k1m l) l.length] st (.agg (k2y l).row) := by
 have h := k9r false (l.map fun n : Nat => ((.iface T.int (.int (n : Int)) : PV), q97 n)) (by simpa using h0) (by simpa using h1) (fun x hx => by
  obtain ⟨n, _, rfl⟩ := List.mem_map.1 hx
  exact .int n) st
 simp only [List.map_map, List.length_map] at h
 exact h
abbrev q8c (t : Bool) (l : List Nat) : PV := .list t (l.map fun n : Nat => .int (n : Int)) l.length
theorem z69 (t u : Bool) {r e j : Nat} {m k : List Nat} {x : ByteArray} (h : Fit r e j m k x) (st : q5d) :
  Rets P F.q3i [.list true [.iface T.int (.int (r : Int)), .iface T.int (.int (e : Int)), .iface T.int (.int (j : Int)), .iface T.Lint (q8c t m), .iface T.Lint (q8c u k), .iface T.string (.str x)] 6] st (.agg (z5c (parts r e j m k x)).row) := by
 have h := k9r true [(.iface T.int (.int (r : Int)), q97 r), (.iface T.int (.int (e : Int)), q97 e), (.iface T.int (.int (j : Int)), q97 j), (.iface T.Lint (q8c t m), k2y m), (.iface T.Lint (q8c u k), k2y k), (.iface T.string (.str x), j0i x)] (by simp) (by simp) (fun y hy => by
  simp only [List.mem_cons, List.not_mem_nil, or_false] at hy
  rcases hy with rfl | rfl | rfl | rfl | rfl | rfl
  ·exact .int r
  ·exact .int e
  ·exact .int j
  ·exact .ints t m h.m0 h.m1 (z1z m h.m0 h.m1)
  ·exact .ints u k h.k0 h.k1 (z1z k h.k0 h.k1)
  ·exact .text x) st
 exact h
abbrev k59 (r e j : Nat) (c : PV) (d : List (BitVec 8)) : List PV := .int (r : Int) :: .int (e : Int) :: .int (j : Int) :: c :: q5e d
def q7v : ByteArray := ⟨#[99, 97, 114, 100]⟩
def q73 (l : List (BitVec 8)) : ByteArray := ⟨(l.map fun b => UInt8.ofNat b.toNat).toArray⟩
theorem k9s (l : List (BitVec 8)) : k0e (q5e l) = some (l.map fun b => UInt8.ofNat b.toNat) := by
 induction l with
 | nil => rfl
 | cons b l ih =>
  have e : q5e (b :: l) = bv b :: q5e l := rfl
  have hb := y79 b
  have h2 : (u8 b).toNat = b.toNat := by unfold u8; simp
  rw [e, k0e, if_pos hb, ih, h2]
  rfl
theorem j3j (l : List (BitVec 8)) : q8m (q73 l) = l := by
 show ((l.map fun b => UInt8.ofNat b.toNat).toArray.toList).map (·.toBitVec) = l
 rw [List.toList_toArray, List.map_map]
 conv => rhs; rw [← List.map_id l]
 refine List.map_congr_left fun b _ => ?_
 show (UInt8.ofNat b.toNat).toBitVec = b
 apply BitVec.eq_of_toNat_eq
 simp
theorem j0k (l : List (BitVec 8)) : (q73 l).size = l.length := by rw [← k1f, j3j]
theorem k9t (t u : Bool) {r e j : Nat} {m k : List Nat} (c : PV) (d salt : List (BitVec 8)) (hd : d.length = 32) (hs : salt.length = 32) (h : Fit r e j m k (q73 salt)) (st : q5d) (h0 : q5w st 0 = some (.arr T.t8uint32 Sha.start.row)) (h1 : q5w st 1 = some q9o) :
  Rets P F.q4a [.agg (k59 r e j c d), q8c t m, q8c u k, .agg (q5e salt)] st (.agg (q5e (q7h (q8m q7v) (k77 r e j m k (q73 salt))))) := by
 refine H.q4a.pure q5n rfl rfl ?_
 have hsl : (q5e salt).length = 32 := by simp [hs]
 have hsub := sub_all hsl
 have htk : List.take 32 (q5e salt) = q5e salt := List.take_of_length_le (by omega)
 have hbo := k9s salt
 have hsS : (⟨(salt.map fun b => UInt8.ofNat b.toNat).toArray⟩ : ByteArray) = q73 salt := rfl
 have hv := fun st => z69 t u h st
 have he := fun st => y0c h st
 have hlen : (k77 r e j m k (q73 salt)).length ≤ 900000 := by
  have hB := k12 (parts r e j m k (q73 salt)) (q95 (Q := fun v => v.B.length ≤ 2000) (by have := k0k r h.hr; omega) (by have := k0k e h.he; omega) (by have := k0k j h.hj; omega) (k3o m h.m1 h.hm) (k3o k h.k1 h.hk) ((k8j 0 (by omega) _ h.hx .nil).B))
  have h2 := q62 (n := (parts r e j m k (q73 salt)).length) (by simp [parts])
  show (3#8 :: (k0z (parts r e j m k (q73 salt)).length ++ (parts r e j m k (q73 salt)).flatMap Wv.B)).length ≤ 900000
  rw [List.length_cons, List.length_append]
  simp only [parts, List.length_cons, List.length_nil] at hB h2 ⊢
  omega
 have ht : ∀ st, q5w st 0 = some (.arr T.t8uint32 Sha.start.row) → q5w st 1 = some q9o → Rets P F.q4h [.val (.string ⟨#[99, 97, 114, 100]⟩), q5s false (k77 r e j m k (q73 salt))] st (.agg (q5e (q7h (q8m q7v) (k77 r e j m k (q73 salt))))) := fun st h0 h1 => z65 q7v (by decide) false _ hlen st h0 h1
 have hD : (q5e (q7h (q8m q7v) (k77 r e j m k (q73 salt)))).length = 32 := rfl
 have hall : ∀ L : List PV, L.length = 32 → q5i L 0 (q5e (q7h (q8m q7v) (k77 r e j m k (q73 salt)))) = q5e (q7h (q8m q7v) (k77 r e j m k (q73 salt))) := fun L h => q6e _ _ h.symm
 have hsub2 := sub_all hD
 generalize (z5c (parts r e j m k (q73 salt))).row = RW at *
 generalize q7h (q8m q7v) (k77 r e j m k (q73 salt)) = D at *
 generalize k77 r e j m k (q73 salt) = B at *
 generalize q73 salt = x at *
 generalize (salt.map fun b => UInt8.ofNat b.toNat) = bs at hbo hsS
 repeat' (first 
  | (with_reducible refine Fresh.intro fun b hb => ?_) <;> (try simp -dsimp -implicitDefEqProofs [*] at hb)
  | (simp -dsimp -implicitDefEqProofs [*]))
 revert b
 intro y hy
 revert b
 intro z hz hy
 revert b
 intro p hp hz hy
 have y0 := (q6m hy.2.2 h0).1
 have y1 := (q6m hy.2.2 h1).1
 have z0 := (q6m hz.2 h0).1
 have z1 := (q6m hz.2 h1).1
 have p0 := (q6m hp h0).1
 have p1 := (q6m hp h1).1
 have ht' := fun R R2 R3 => ht ((y, .arr T.apiDigest R) :: (z, .arr T.apiDigest R2) :: (p, .arr T.apiSealed R3) :: st) (by simp [y0, z0, p0, h0]) (by simp [y1, z1, p1, h1])
 clear ht
 refine DrawLate.intro [] ?_
 repeat' (first 
  | (with_reducible refine Rets.xcall (hv _) ?_)
  | (with_reducible refine Rets.xcall (he _) ?_)
  | (simp -dsimp -implicitDefEqProofs [*]))
 repeat' (first 
  | (with_reducible refine Rets.xcall (ht' _ _ _) ?_)
  | (simp -dsimp -implicitDefEqProofs [*]))
end Go.Proofs.YtnooplpbpfiapaaGreatDoor
