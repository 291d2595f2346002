/- Commitments as values, by the program. -/
import Derived.Test.YtnooplpbpfiapaaGreatDoorS36K
namespace Go.Proofs.YtnooplpbpfiapaaGreatDoor
open Go.Pv Go.Pv.Sha
set_option maxRecDepth 100000
set_option maxHeartbeats 4000000
abbrev z26 (l : List Wv) : List PV := l.flatMap Wv.row
theorem k7o (l : List Wv) : (z26 l).length = l.length * 4 := q5m (enc := Wv.row) (k := 4) (fun _ => rfl) l
theorem k1l (l m : List Wv) : z26 (l ++ m) = z26 l ++ z26 m := by simp [z26]
abbrev q9q (l : List Nat) : List PV := l.map fun n : Nat => .iface T.int (.int (n : Int))
inductive Item : PV → Wv → Prop
 | int (n : Nat) : Item (.iface T.int (.int (n : Int))) (k5t n)
 | text (x : ByteArray) : Item (.iface T.string (.str x)) (z77 x)
 | ints (t : Bool) (l : List Nat) (h0 : 0 < l.length) (hl : l.length ≤ 100) (h : ∀ st, Rets P F.q2s [.list false (q9q l) l.length] st (.agg (k31 l).row)) : Item (.iface T.Lint (.list t (l.map fun n : Nat => .int (n : Int)) l.length)) (k31 l)
theorem z4y (l : List Nat) : (q9q l).length = l.length * 1 := by simp [q9q]
theorem k8p (l m : List Nat) : q9q (l ++ m) = q9q l ++ q9q m := by simp [q9q]
theorem Cls.sub {st0 st : q37} {M M' : List Nat} (h : Cls st0 M st) (hs : ∀ c ∈ M, c ∈ M') : Cls st0 M' st := fun c hc => h c fun hm => hc (hs c hm)
theorem Cls.trans' {a b c : q37} {M : List Nat} (h : Cls a M b) (k : Cls b M c) : Cls a M c := fun x hx o ho => k x hx o (h x hx o ho)
theorem y29 {α : Type} {T : TypeId} {st : q37} (o : Option (Acc α)) : Cls (q6c T st o) (accB o) st := by
 cases o with
 | none => exact Cls.self _ _
 | some a =>
  intro c hc y hy
  have h : ¬ c = a.b := by simpa [accB] using hc
  have h2 : ¬ a.b = c := fun e => h e.symm
  simpa [q6c, q4n, h, h2] using hy
theorem k7p (t : Bool) (l : List (PV × Wv)) (h0 : 0 < l.length) (h1 : l.length ≤ 100) (hI : ∀ x ∈ l, Item x.1 x.2) (st : q37) : Rets P F.q2s [.list t (l.map (·.1)) l.length] st (.agg (z78 (l.map (·.2))).row) := by
 refine H.q2s.view q4m rfl rfl ?_
 repeat' (first 
  | (with_reducible refine Fresh.intro fun b hb => ?_) <;> (try simp -dsimp -implicitDefEqProofs [*] at hb)
  | (simp -dsimp -implicitDefEqProofs [-q39, *]))
 refine q4e (fun y : Nat × Option (Acc Wv) => [(2, .ptr b 0), (12, .list t (l.map (·.1)) l.length), (13, .int l.length), (14, .int (y.1 : Nat))]) (fun y => (b, .arr T.apiValue [.int 3, .int 0, k53, k1e y.2]) :: q6c T.apiValue st y.2) (fun y => y.1 ≤ l.length ∧ accOk z26 4 st y.2 ∧ q5p (q6c T.apiValue st y.2) b ∧ q5c y.2 = (l.take y.1).map (·.2)) (fun y => l.length - y.1) (0, none) ⟨by omega, trivial, by simpa using ‹q5p st b›, rfl⟩ (by simp) (.refl _) ?_
 rintro ⟨i, o⟩ ⟨hi, ho, hb', hol⟩
 simp only at hi ho hb' hol
 have kl : Hid (q5c o = (l.take i).map (·.2)) := ⟨hol⟩
 clear hol
 by_cases hil : i < l.length
 ·have hit := hI l[i] (List.getElem_mem hil)
  have hg : (l.map (·.1))[i]? = some l[i].1 := by simp [hil]
  have hwi := q4d (n := i) (by omega)
  have kT : Hid ((l.take (i + 1)).map (·.2) = (l.take i).map (·.2) ++ [l[i].2]) := ⟨by rw [List.take_succ_eq_append_getElem hil, List.map_append]; rfl⟩
  have hlen : (l.map (·.1)).length = l.length := by simp
  have kn : Hid (((q5c o).length + 1) * 56 ≤ 140737488355328) := ⟨by rw [kl.out, List.length_map, List.length_take]; omega⟩
  have ne1 : ¬ T.string = T.int := by decide
  have ne2 : ¬ T.Lint = T.int := by decide
  have ne3 : ¬ T.string = T.Lint := by decide
  clear hI
  generalize l.map (·.1) = ps at *
  have hgE : ∀ h : i < ps.length, ps[i]'h = l[i].1 := fun h => by rw [List.getElem?_eq_getElem h] at hg; exact Option.some.inj hg
  generalize l[i].1 = p at *
  generalize l[i].2 = w at *
  cases hit with
  | int n =>
   repeat' (first 
    | (with_reducible refine Lit.imm ?_)
    | (simp -dsimp -implicitDefEqProofs [-q39, *]))
   refine xappend_box k7o k1l o ho hb' [k5t n] rfl rfl (by omega) (by have := kn.out; omega) fun o' ho' hol' => ?_
   have kl' : Hid (q5c o' = (l.take (i + 1)).map (·.2)) := ⟨by rw [hol', kl.out, kT.out]⟩
   clear hol' kl kT kn
   cases o' with
   | none => exact absurd (congrArg List.length kl'.out) (by simp; omega)
   | some a =>
    simp only [k3r, q85, q8s, q93] at ho' kl' ⊢
    obtain ⟨ha, hab⟩ := ho'
    have hns := (accB_new hb').2
    clear hb' ho
    obtain ⟨⟨hab1, hab2⟩, hab3⟩ := hab
    repeat' (simp -dsimp -implicitDefEqProofs [-q39, *])
    exact Next.intro (i + 1, some a) ⟨by simp only; omega, ⟨ha, hab3⟩, ⟨⟨hab2, hab1⟩, hns⟩, kl'.out⟩ (by simp only; omega) (by simp) q4p
  | text x =>
   repeat' (first 
    | (with_reducible refine Lit.imm ?_)
    | (simp -dsimp -implicitDefEqProofs [-q39, *]))
   refine xappend_box k7o k1l o ho hb' [z77 x] rfl rfl (by omega) (by have := kn.out; omega) fun o' ho' hol' => ?_
   have kl' : Hid (q5c o' = (l.take (i + 1)).map (·.2)) := ⟨by rw [hol', kl.out, kT.out]⟩
   clear hol' kl kT kn
   cases o' with
   | none => exact absurd (congrArg List.length kl'.out) (by simp; omega)
   | some a =>
    simp only [k3r, q85, q8s, q93] at ho' kl' ⊢
    obtain ⟨ha, hab⟩ := ho'
    have hns := (accB_new hb').2
    clear hb' ho
    obtain ⟨⟨hab1, hab2⟩, hab3⟩ := hab
    repeat' (simp -dsimp -implicitDefEqProofs [-q39, *])
    exact Next.intro (i + 1, some a) ⟨by simp only; omega, ⟨ha, hab3⟩, ⟨⟨hab2, hab1⟩, hns⟩, kl'.out⟩ (by simp only; omega) (by simp) q4p
  | ints u m hm0 hm hr =>
   repeat' (simp -dsimp -implicitDefEqProofs [-q39, *])
   obtain ⟨hnb, hns⟩ := accB_new hb'
   have hgb : q4n ((b, .arr T.apiValue [.int 3, .int 0, k53, k1e o]) :: q6c T.apiValue st o) b = some (.arr T.apiValue [.int 3, .int 0, k53, k1e o]) := by simp
   generalize hST : (b, PObj.arr T.apiValue [.int 3, .int 0, k53, k1e o]) :: q6c T.apiValue st o = ST at *
   refine q4e (fun y : Nat × Option (Acc Nat) => [(2, .ptr b 0), (12, .list t ps l.length), (13, .int l.length), (14, .int (i : Nat)), (7, k1e y.2), (32, .list u (m.map fun n : Nat => .int (n : Int)) m.length), (33, .int m.length), (34, .int (y.1 : Nat))]) (fun y => q6c T.interface ST y.2) (fun y => y.1 ≤ m.length ∧ accOk q9q 1 ST y.2 ∧ q5c y.2 = m.take y.1) (fun y => m.length - y.1) (0, none) ⟨by omega, trivial, rfl⟩ (by simp) (.refl _) ?_
   rintro ⟨j, q⟩ ⟨hj, hq, hql⟩
   simp only at hj hq hql
   have kq : Hid (q5c q = m.take j) := ⟨hql⟩
   clear hql
   by_cases hjm : j < m.length
   ·have hg2 : (m.map fun n : Nat => PV.int (n : Int))[j]? = some (.int (m[j] : Nat)) := by simp [hjm]
    have hwj := q4d (n := j) (by omega)
    have kT2 : Hid (m.take (j + 1) = m.take j ++ [m[j]]) := ⟨List.take_succ_eq_append_getElem hjm⟩
    have hlen2 : (m.map fun n : Nat => PV.int (n : Int)).length = m.length := by simp
    generalize (m.map fun n : Nat => PV.int (n : Int)) = ms at *
    have hgE2 : ∀ h : j < ms.length, ms[j]'h = .int (m[j] : Nat) := fun h => by rw [List.getElem?_eq_getElem h] at hg2; exact Option.some.inj hg2
    generalize m[j] = v at *
    have hn2 : Hid (((q5c q).length + 1) * 16 ≤ 140737488355328) := ⟨by rw [kq.out, List.length_take]; omega⟩
    repeat' (first 
     | (with_reducible refine Lit.imm ?_)
     | (simp -dsimp -implicitDefEqProofs [-q39, *]))
    refine q6a z4y k8p q hq [v] rfl rfl (by have := hn2.out; simpa using this) fun q' hq' hl' => ?_
    have kq' : Hid (q5c q' = m.take (j + 1)) := ⟨by rw [hl', kq.out, kT2.out]⟩
    clear hl' kq kT2
    repeat' (simp -dsimp -implicitDefEqProofs [-q39, *])
    exact Next.intro (j + 1, q') ⟨by simp only; omega, hq', kq'.out⟩ (by simp only; omega) (by simp) q4p
   ·have e : j = m.length := by omega
    subst e
    rw [List.take_length] at kq
    cases q with
    | none => exact absurd (congrArg List.length kq.out) (by simp; omega)
    | some z =>
    simp only [q8s, q93] at hq kq
    obtain ⟨hz, hzb⟩ := hq
    have hbz : ¬ b = z.b := (q48 hzb hgb).2
    have hbz2 : ¬ z.b = b := (q48 hzb hgb).1
    have hM : ¬ b ∈ z.b :: accB o := by simp [hbz, hnb]
    repeat' (simp -dsimp -implicitDefEqProofs [-q39, *])
    refine DrawLate.by (Cls ((z.b, .arr T.interface z.R) :: ST) (z.b :: accB o)) (Cls.self _ _) ?_
    have kr : Hid (∀ st, Rets P F.q2s [.list false (q9q z.l) z.l.length] st (.agg [.int 3, .int 0, k53, .list false ((m.map k5t).flatMap Wv.row) (m.map k5t).length])) := ⟨by rw [kq.out]; exact hr⟩
    have kw : Hid ([.int 3, .int 0, k53, .list false ((m.map k5t).flatMap Wv.row) (m.map k5t).length] = z26 [k31 m]) := ⟨rfl⟩
    clear hr
    generalize (m.map k5t).flatMap Wv.row = wr at *
    generalize (m.map k5t).length = wn at *
    repeat' (simp -dsimp -implicitDefEqProofs [-q39, *])
    refine k3s hzb (.refl _) (.cons (Frz.acc hz) .nil) (kr.out _) ?_
    rw [q6t]
    have hc1 : Cls ((z.b, .arr T.interface z.R) :: ST) (z.b :: accB o) ST := Cls.sub (y29 (T := T.interface) (some z)) (by simp [accB])
    refine ⟨hc1, ?_⟩
    subst hST
    repeat' (simp -dsimp -implicitDefEqProofs [-q39, *])
    refine xappend_box k7o k1l o ho hb' [k31 m] kw.out.symm rfl (by omega) (by have := kn.out; omega) fun o' ho' hol' => ?_
    refine ⟨Cls.trans' hc1 (q9p ho' (Cls.sub (Cls_box o) (fun c hc => List.mem_cons_of_mem _ hc))), ?_⟩
    have kl' : Hid (q5c o' = (l.take (i + 1)).map (·.2)) := ⟨by rw [hol', kl.out, kT.out]⟩
    clear hol' kl kT kn hc1 kr kw
    cases o' with
    | none => exact absurd (congrArg List.length kl'.out) (by simp; omega)
    | some a =>
     simp only [k3r, q85, q8s, q93] at ho' kl' ⊢
     obtain ⟨ha, hab⟩ := ho'
     clear hb' ho
     obtain ⟨⟨hab1, hab2⟩, hab3⟩ := hab
     repeat' (simp -dsimp -implicitDefEqProofs [-q39, *])
     exact Next.intro (i + 1, some a) ⟨by simp only; omega, ⟨ha, hab3⟩, ⟨⟨hab2, hab1⟩, hns⟩, kl'.out⟩ (by simp only; omega) (by simp) q4p
 ·have e : i = l.length := by omega
  subst e
  repeat' (simp -dsimp -implicitDefEqProofs [-q39, *])
  rw [List.take_length] at kl
  cases o with
  | none => exact absurd (congrArg List.length kl.out) (by simp; omega)
  | some a =>
   simp only [q8s, q93] at ho kl
   refine .fresh1 hb' (RetView.freeze (.agg [.int 3, .int 0, k53, .list false (z26 a.l) a.l.length]) ho.2 (.agg (.cons (.refl _) (.cons (.refl _) (.cons (.refl _) (.cons (Frz.acc ho.1) .nil))))) (.same ⟨?_, rfl⟩))
   rw [kl.out]
   rfl
open Go.Pv Go.Pv.Sha
set_option maxRecDepth 100000
set_option maxHeartbeats 4000000
theorem k9t (l : List Nat) (h0 : 0 < l.length) (h1 : l.length ≤ 100) (st : q37) : Rets P F.q2s [.list false (q9q l) l.length] st (.agg (k31 l).row) := by
 have h := k7p false (l.map fun n : Nat => ((.iface T.int (.int (n : Int)) : PV), k5t n)) (by simpa using h0) (by simpa using h1) (fun x hx => by
  obtain ⟨n, _, rfl⟩ := List.mem_map.1 hx
  exact .int n) st
 simp only [List.map_map, List.length_map] at h
 exact h
abbrev q9k (t : Bool) (l : List Nat) : PV := .list t (l.map fun n : Nat => .int (n : Int)) l.length
theorem z4z (t u : Bool) {r e j : Nat} {m k : List Nat} {x : ByteArray} (h : Fit r e j m k x) (st : q37) :
  Rets P F.q2s [.list true [.iface T.int (.int (r : Int)), .iface T.int (.int (e : Int)), .iface T.int (.int (j : Int)), .iface T.Lint (q9k t m), .iface T.Lint (q9k u k), .iface T.string (.str x)] 6] st (.agg (z78 (parts r e j m k x)).row) := by
 have h := k7p true [(.iface T.int (.int (r : Int)), k5t r), (.iface T.int (.int (e : Int)), k5t e), (.iface T.int (.int (j : Int)), k5t j), (.iface T.Lint (q9k t m), k31 m), (.iface T.Lint (q9k u k), k31 k), (.iface T.string (.str x), z77 x)] (by simp) (by simp) (fun y hy => by
  simp only [List.mem_cons, List.not_mem_nil, or_false] at hy
  rcases hy with rfl | rfl | rfl | rfl | rfl | rfl
  ·exact .int r
  ·exact .int e
  ·exact .int j
  ·exact .ints t m h.m0 h.m1 (k9t m h.m0 h.m1)
  ·exact .ints u k h.k0 h.k1 (k9t k h.k0 h.k1)
  ·exact .text x) st
 exact h
abbrev k32 (r e j : Nat) (c : PV) (d : List (BitVec 8)) : List PV := .int (r : Int) :: .int (e : Int) :: .int (j : Int) :: c :: q38 d
def q6b : ByteArray := ⟨#[99, 97, 114, 100]⟩
def q6x (l : List (BitVec 8)) : ByteArray := ⟨(l.map fun b => UInt8.ofNat b.toNat).toArray⟩
theorem z40 (l : List (BitVec 8)) : q8m (q38 l) = some (l.map fun b => UInt8.ofNat b.toNat) := by
 induction l with
 | nil => rfl
 | cons b l ih =>
  have e : q38 (b :: l) = bv b :: q38 l := rfl
  have hb := y6n b
  have h2 : (u8 b).toNat = b.toNat := by unfold u8; simp
  rw [e, q8m, if_pos hb, ih, h2]
  rfl
theorem j1d (l : List (BitVec 8)) : q9r (q6x l) = l := by
 show ((l.map fun b => UInt8.ofNat b.toNat).toArray.toList).map (·.toBitVec) = l
 rw [List.toList_toArray, List.map_map]
 conv => rhs; rw [← List.map_id l]
 refine List.map_congr_left fun b _ => ?_
 show (UInt8.ofNat b.toNat).toBitVec = b
 apply BitVec.eq_of_toNat_eq
 simp
theorem z79 (l : List (BitVec 8)) : (q6x l).size = l.length := by rw [← k3x, j1d]
theorem k7q (t u : Bool) {r e j : Nat} {m k : List Nat} (c : PV) (d salt : List (BitVec 8)) (hd : d.length = 32) (hs : salt.length = 32) (h : Fit r e j m k (q6x salt)) (st : q37) (h0 : q4n st 0 = some (.arr T.t8uint32 Sha.start.row)) (h1 : q4n st 1 = some q6d) :
  Rets P F.q26 [.agg (k32 r e j c d), q9k t m, q9k u k, .agg (q38 salt)] st (.agg (q38 (q6h (q9r q6b) (k78 r e j m k (q6x salt))))) := by
 refine H.q26.pure q4m rfl rfl ?_
 have hsl : (q38 salt).length = 32 := by simp [hs]
 have hsub := sub_all hsl
 have htk : List.take 32 (q38 salt) = q38 salt := List.take_of_length_le (by omega)
 have hbo := z40 salt
 have hsS : (⟨(salt.map fun b => UInt8.ofNat b.toNat).toArray⟩ : ByteArray) = q6x salt := rfl
 have hv := fun st => z4z t u h st
 have he := fun st => j8a h st
 have hlen : (k78 r e j m k (q6x salt)).length ≤ 900000 := by
  have hB := k3y (parts r e j m k (q6x salt)) (k7n (Q := fun v => v.B.length ≤ 2000) (by have := k30 r h.hr; omega) (by have := k30 e h.he; omega) (by have := k30 j h.hj; omega) (k7m m h.m1 h.hm) (k7m k h.k1 h.hk) ((z6t 0 (by omega) _ h.hx .nil).B))
  have h2 := q7h (n := (parts r e j m k (q6x salt)).length) (by simp [parts])
  show (3#8 :: (k0w (parts r e j m k (q6x salt)).length ++ (parts r e j m k (q6x salt)).flatMap Wv.B)).length ≤ 900000
  rw [List.length_cons, List.length_append]
  simp only [parts, List.length_cons, List.length_nil] at hB h2 ⊢
  omega
 have ht : ∀ st, q4n st 0 = some (.arr T.t8uint32 Sha.start.row) → q4n st 1 = some q6d → Rets P F.q3b [.val (.string ⟨#[99, 97, 114, 100]⟩), q5b false (k78 r e j m k (q6x salt))] st (.agg (q38 (q6h (q9r q6b) (k78 r e j m k (q6x salt))))) := fun st h0 h1 => z4u q6b (by decide) false _ hlen st h0 h1
 have hD : (q38 (q6h (q9r q6b) (k78 r e j m k (q6x salt)))).length = 32 := rfl
 have hall : ∀ L : List PV, L.length = 32 → q4a L 0 (q38 (q6h (q9r q6b) (k78 r e j m k (q6x salt)))) = q38 (q6h (q9r q6b) (k78 r e j m k (q6x salt))) := fun L h => q5e _ _ h.symm
 have hsub2 := sub_all hD
 generalize (z78 (parts r e j m k (q6x salt))).row = RW at *
 generalize q6h (q9r q6b) (k78 r e j m k (q6x salt)) = D at *
 generalize k78 r e j m k (q6x salt) = B at *
 generalize q6x salt = x at *
 generalize (salt.map fun b => UInt8.ofNat b.toNat) = bs at hbo hsS
 repeat' (first 
  | (with_reducible refine Fresh.intro fun b hb => ?_) <;> (try simp -dsimp -implicitDefEqProofs [*] at hb)
  | (simp -dsimp -implicitDefEqProofs [*]))
 revert b
 intro y hy
 revert b
 intro z hz hy
 revert b
 intro p hp hz hy
 have y0 := (q48 hy.2.2 h0).1
 have y1 := (q48 hy.2.2 h1).1
 have z0 := (q48 hz.2 h0).1
 have z1 := (q48 hz.2 h1).1
 have p0 := (q48 hp h0).1
 have p1 := (q48 hp h1).1
 have ht' := fun R R2 R3 => ht ((y, .arr T.apiDigest R) :: (z, .arr T.apiDigest R2) :: (p, .arr T.apiSealed R3) :: st) (by simp [y0, z0, p0, h0]) (by simp [y1, z1, p1, h1])
 clear ht
 refine DrawLate.intro [] ?_
 repeat' (first 
  | (with_reducible refine Rets.xcall (hv _) ?_)
  | (with_reducible refine Rets.xcall (he _) ?_)
  | (simp -dsimp -implicitDefEqProofs [*]))
 repeat' (first 
  | (with_reducible refine Rets.xcall (ht' _ _ _) ?_)
  | (simp -dsimp -implicitDefEqProofs [*]))
end Go.Proofs.YtnooplpbpfiapaaGreatDoor
