/- Commitments by the reference. -/
import Derived.Test.YtnooplpbpfiapaaGreatDoorS36Q
namespace Go.Proofs.YtnooplpbpfiapaaGreatDoor
open Go.Pv Go.Pv.Sha
set_option maxRecDepth 100000
set_option maxHeartbeats 4000000
theorem Frzs.append {b : Nat} {o : PObj} : ∀ {ps qs rs us : List PV}, Frzs b o ps qs → Frzs b o rs us → Frzs b o (ps ++ rs) (qs ++ us)
 | _, _, _, _, .nil, h => h
 | _, _, _, _, .cons h t, k => .cons h (Frzs.append t k)
theorem z5d (t u : Bool) {r e j : Nat} {m k : List Nat} (salt : List (BitVec 8)) (hs : salt.length = 32) (h : Fit r e j m k (q73 salt)) (st : q5d) : Rets P F.q3n [.int (r : Int), .int (e : Int), .int (j : Int), q8c t m, q8c u k, .agg (q5e salt)] st (q5s false (k77 r e j m k (q73 salt))) := by
 refine H.q3n.view q5n rfl rfl ?_
 have hE := fun st => j0j h st
 have hsl : (q5e salt).length = 32 := by simp [hs]
 repeat' (first 
  | (with_reducible refine Fresh.intro fun b hb => ?_) <;> (try simp -dsimp -implicitDefEqProofs [*] at hb)
  | (with_reducible refine Lit.imm ?_)
  | (simp -dsimp -implicitDefEqProofs [-q5f, *]))
 refine q5g (fun y : Nat × Option (Acc (BitVec 8)) => [(0, .int (r : Int)), (1, .int (e : Int)), (2, .int (j : Int)), (3, q8c t m), (4, q8c u k), (11, .ptr b 0), (13, j8c y.2), (14, .int (y.1 : Nat))]) (fun y => q6o T.uint8 ((b, .arr T.apiDigest (q5e salt)) :: st) y.2) (fun y => y.1 ≤ 32 ∧ accOk q5e 1 ((b, .arr T.apiDigest (q5e salt)) :: st) y.2 ∧ q5y y.2 = salt.take y.1) (fun y => 32 - y.1) (0, none) ⟨by omega, trivial, rfl⟩ (by simp) (.refl _) ?_
 rintro ⟨i, q⟩ ⟨hi, hq, hql⟩
 simp only at hi hq hql
 have kl : Hid (q5y q = salt.take i) := ⟨hql⟩
 clear hql
 have hgb := k8h (T := T.uint8) hq (b := b) (x := .arr T.apiDigest (q5e salt)) (by simp)
 by_cases hil : i < 32
 ·have hg : (q5e salt)[i]? = some (bv salt[i]) := k9g salt i (by omega)
  have hwi := q5h (n := i) (by omega)
  have kT : Hid (salt.take (i + 1) = salt.take i ++ [salt[i]]) := ⟨List.take_succ_eq_append_getElem (by omega)⟩
  have hgE : ∀ h : i < (q5e salt).length, (q5e salt)[i]'h = bv salt[i] := fun h => by rw [List.getElem?_eq_getElem h] at hg; exact Option.some.inj hg
  generalize salt[i] = x at *
  generalize q5e salt = sr at *
  have kn : Hid ((q5y q).length ≤ 32) := ⟨by rw [kl.out, List.length_take]; omega⟩
  repeat' (first 
   | (with_reducible refine Lit.imm ?_)
   | (with_reducible refine And.intro (fun h => ?_) (fun h => ?_)) <;> (try (exfalso; omega))
   | ((with_reducible refine q51 ?_ fun hk => ?_); omega)
   | (simp -dsimp -implicitDefEqProofs [-q5f, *]))
  refine k50 q5z q5l q hq [x] rfl rfl (by have := kn.out; omega) fun q' hq' hl' => ?_
  have kl' : Hid (q5y q' = salt.take (i + 1)) := ⟨by rw [hl', kl.out, kT.out]⟩
  clear hl' kl kT
  repeat' (simp -dsimp -implicitDefEqProofs [-q5f, *])
  exact Next.intro (i + 1, q') ⟨by simp only; omega, hq', kl'.out⟩ (by simp only; omega) (by simp) q5q
 ·have e : i = 32 := by omega
  subst e
  rw [List.take_of_length_le (by omega)] at kl
  cases q with
  | none => exact absurd (congrArg List.length kl.out) (by simp [hs])
  | some q =>
  simp only [q9l, q7z, q8q, j2y] at hq kl hgb ⊢
  obtain ⟨hqo, hqb⟩ := hq
  have hst1 : StLe st ((b, .arr T.apiDigest (q5e salt)) :: st) := .fresh ‹_›
  clear hgb
  generalize (b, PObj.arr T.apiDigest (q5e salt)) :: st = st1 at *
  repeat' (first 
   | (with_reducible refine Fresh.intro fun b hb => ?_) <;> (try simp -dsimp -implicitDefEqProofs [*] at hb)
   | (with_reducible refine Lit.own (len := 3) fun b hb => ?_) <;> (try simp -dsimp -implicitDefEqProofs [*] at hb)
   | (simp -dsimp -implicitDefEqProofs [-q5f, *]))
  revert b
  intro v hv
  revert b
  intro lb hlb hv
  revert b
  intro nb hnb hlb hv
  generalize hLR : [PV.val (Value.int IntKind.i64 1), PV.val (Value.int IntKind.i64 (r : Int)), PV.val (Value.string { data := #[] }), PV.nil, PV.val (Value.int IntKind.i64 1), PV.val (Value.int IntKind.i64 (e : Int)), PV.val (Value.string { data := #[] }), PV.nil, PV.val (Value.int IntKind.i64 1), PV.val (Value.int IntKind.i64 (j : Int)), PV.val (Value.string { data := #[] }), PV.nil] = LR
  refine q5g (fun y : Nat × Int × Option (Acc Wv) => [(3, q8c t m), (4, q8c u k), (13, .own q.b 0 q.l.length q.cap), (15, .ptr nb 0), (16, .own lb 0 3 3), (17, .ptr v 0), (18, .int (y.1 : Nat))]) (fun y => (v, .arr T.apiValue [.int 3, .int 0, q7u, k1p y.2.2]) :: q6o T.apiValue ((lb, .arr T.apiValue LR) :: (nb, .arr T.apiValue [.int 1, .int y.2.1, q7u, .nil]) :: (q.b, .arr T.uint8 q.R) :: st1) y.2.2) (fun y => y.1 ≤ m.length ∧ accOk k2n 4 ((v, .arr T.apiValue []) :: (lb, .arr T.apiValue LR) :: (nb, .arr T.apiValue []) :: (q.b, .arr T.uint8 q.R) :: st1) y.2.2 ∧ q5y y.2.2 = (m.take y.1).map q97) (fun y => m.length - y.1) (0, 0, none) ⟨by omega, trivial, rfl⟩ (by simp) (.refl _) ?_
  rintro ⟨i, X, o⟩ ⟨hi, ho, hol⟩
  simp only at hi ho hol
  have kl2 : Hid (q5y o = (m.take i).map q97) := ⟨hol⟩
  clear hol
  by_cases hil : i < m.length
  ·have hg : (m.map fun n : Nat => PV.int (n : Int))[i]? = some (.int (m[i] : Nat)) := by simp [hil]
   have hwi := q5h (n := i) (by have := h.m1; omega)
   have kT : Hid ((m.take (i + 1)).map q97 = (m.take i).map q97 ++ [q97 m[i]]) := ⟨by rw [List.take_succ_eq_append_getElem hil, List.map_append]; rfl⟩
   have hlen : (m.map fun n : Nat => PV.int (n : Int)).length = m.length := by simp
   have km : Hid (m.length ≤ 100) := ⟨h.m1⟩
   have kfull : Hid (q8c t m = .list t (m.map fun n : Nat => PV.int (n : Int)) m.length) := ⟨rfl⟩
   generalize hms : (m.map fun n : Nat => PV.int (n : Int)) = ms at *
   have hgE : ∀ h : i < ms.length, ms[i]'h = .int (m[i] : Nat) := fun h => by rw [List.getElem?_eq_getElem h] at hg; exact Option.some.inj hg
   generalize m[i] = n at *
   cases o with
   | none =>
    repeat' (first 
     | (with_reducible refine Lit.imm ?_)
     | (simp -dsimp -implicitDefEqProofs [-q5f, *]))
    refine q8a k01 [q97 n] rfl rfl (by omega) (by omega) fun a' ha' hl' hb' => ?_
    have kl3 : Hid (a'.l = (m.take (i + 1)).map q97) := ⟨by rw [hl', kT.out, ← kl2.out]; rfl⟩
    have kb : Hid (q6u ((v, .arr T.apiValue []) :: (lb, .arr T.apiValue LR) :: (nb, .arr T.apiValue []) :: (q.b, .arr T.uint8 q.R) :: st1) a'.b) := ⟨hb'⟩
    simp only [q6u] at hb'
    clear hl' ho
    repeat' (simp -dsimp -implicitDefEqProofs [-q5f, *])
    exact Next.intro (i + 1, (n : Int), some a') ⟨by simp only; omega, ⟨ha', kb.out⟩, kl3.out⟩ (by simp only; omega) (by simp) q5q
   | some a =>
    obtain ⟨ha, hab⟩ := ho
    simp only [q6u] at hab
    obtain ⟨⟨a1, a2⟩, ⟨a3, a4⟩, ⟨a5, a6⟩, ⟨a7, a8⟩, a9⟩ := hab
    simp only [q7z] at kl2
    have kn : Hid ((a.l.length + 1) * 56 ≤ 140737488355328) := ⟨by rw [kl2.out, List.length_map, List.length_take]; have := km.out; omega⟩
    repeat' (first 
     | (with_reducible refine Lit.imm ?_)
     | (simp -dsimp -implicitDefEqProofs [-q5f, *]))
    refine q7i k01 q96 ha (by simp [*]) [q97 n] rfl rfl kn.out fun a' ha' hl' hb' => ?_
    have kl3 : Hid (a'.l = (m.take (i + 1)).map q97) := ⟨by rw [hl', kT.out, kl2.out]⟩
    clear hl' kl2 kT kn
    simp -dsimp -implicitDefEqProofs [*] at hb'
    obtain ⟨⟨c1, c2⟩, ⟨c3, c4⟩, ⟨c5, c6⟩, ⟨c7, c8⟩, c9⟩ := hb'
    repeat' (simp -dsimp -implicitDefEqProofs [-q5f, *])
    exact Next.intro (i + 1, (n : Int), some a') ⟨by simp only; omega, ⟨ha', ⟨⟨c1, c2⟩, ⟨c3, c4⟩, ⟨c5, c6⟩, ⟨c7, c8⟩, c9⟩⟩, kl3.out⟩ (by simp only; omega) (by simp) q5q
  ·have e : i = m.length := by omega
   subst e
   rw [List.take_length] at kl2
   cases o with
   | none => exact absurd (congrArg List.length kl2.out) (by have := h.m0; simp; omega)
   | some am =>
   obtain ⟨ham, hamb⟩ := ho
   simp only [q7z] at kl2
   simp only [k10, q8q]
   have kam : Hid (am.Ok k2n 4 ∧ am.l = m.map q97) := ⟨ham, kl2.out⟩
   clear ham kl2 hi hil
   simp only [q6u] at hamb
   obtain ⟨⟨a1, a2⟩, ⟨a3, a4⟩, ⟨a5, a6⟩, ⟨a7, a8⟩, a9⟩ := hamb
   repeat' (first 
    | (with_reducible refine Fresh.intro fun b hb => ?_) <;> (try simp -dsimp -implicitDefEqProofs [*] at hb)
    | (simp -dsimp -implicitDefEqProofs [-q5f, *]))
   revert b
   intro w hw
   refine q5g (fun y : Nat × Int × Option (Acc Wv) => [(3, q8c t m), (4, q8c u k), (13, .own q.b 0 q.l.length q.cap), (15, .ptr nb 0), (16, .own lb 0 3 3), (17, .ptr v 0), (19, .ptr w 0), (20, .int (y.1 : Nat))]) (fun y => (w, .arr T.apiValue [.int 3, .int 0, q7u, k1p y.2.2]) :: q6o T.apiValue ((v, .arr T.apiValue [.int 3, .int 0, q7u, .own am.b 0 am.l.length am.cap]) :: (am.b, .arr T.apiValue am.R) :: (lb, .arr T.apiValue LR) :: (nb, .arr T.apiValue [.int 1, .int y.2.1, q7u, .nil]) :: (q.b, .arr T.uint8 q.R) :: st1) y.2.2) (fun y => y.1 ≤ k.length ∧ accOk k2n 4 ((w, .arr T.apiValue []) :: (v, .arr T.apiValue [.int 3, .int 0, q7u, .own am.b 0 am.l.length am.cap]) :: (am.b, .arr T.apiValue am.R) :: (lb, .arr T.apiValue LR) :: (nb, .arr T.apiValue []) :: (q.b, .arr T.uint8 q.R) :: st1) y.2.2 ∧ q5y y.2.2 = (k.take y.1).map q97) (fun y => k.length - y.1) (0, X, none) ⟨by omega, trivial, rfl⟩ (by simp) (.refl _) ?_
   rintro ⟨i, X, o⟩ ⟨hi, ho, hol⟩
   simp only at hi ho hol
   have kl2 : Hid (q5y o = (k.take i).map q97) := ⟨hol⟩
   clear hol
   by_cases hil : i < k.length
   ·have hg : (k.map fun n : Nat => PV.int (n : Int))[i]? = some (.int (k[i] : Nat)) := by simp [hil]
    have hwi := q5h (n := i) (by have := h.k1; omega)
    have kT : Hid ((k.take (i + 1)).map q97 = (k.take i).map q97 ++ [q97 k[i]]) := ⟨by rw [List.take_succ_eq_append_getElem hil, List.map_append]; rfl⟩
    have hlen : (k.map fun n : Nat => PV.int (n : Int)).length = k.length := by simp
    have km : Hid (k.length ≤ 100) := ⟨h.k1⟩
    generalize hms : (k.map fun n : Nat => PV.int (n : Int)) = ms at *
    have hgE : ∀ h : i < ms.length, ms[i]'h = .int (k[i] : Nat) := fun h => by rw [List.getElem?_eq_getElem h] at hg; exact Option.some.inj hg
    generalize k[i] = n at *
    cases o with
    | none =>
     repeat' (first 
      | (with_reducible refine Lit.imm ?_)
      | (simp -dsimp -implicitDefEqProofs [-q5f, *]))
     refine q8a k01 [q97 n] rfl rfl (by omega) (by omega) fun a' ha' hl' hb' => ?_
     have kl3 : Hid (a'.l = (k.take (i + 1)).map q97) := ⟨by rw [hl', kT.out, ← kl2.out]; rfl⟩
     have kb : Hid (q6u ((w, .arr T.apiValue []) :: (v, .arr T.apiValue [.int 3, .int 0, q7u, .own am.b 0 am.l.length am.cap]) :: (am.b, .arr T.apiValue am.R) :: (lb, .arr T.apiValue LR) :: (nb, .arr T.apiValue []) :: (q.b, .arr T.uint8 q.R) :: st1) a'.b) := ⟨hb'⟩
     simp only [q6u] at hb'
     clear hl' ho
     repeat' (simp -dsimp -implicitDefEqProofs [-q5f, *])
     exact Next.intro (i + 1, (n : Int), some a') ⟨by simp only; omega, ⟨ha', kb.out⟩, kl3.out⟩ (by simp only; omega) (by simp) q5q
    | some a =>
     obtain ⟨ha, hab⟩ := ho
     simp only [q6u] at hab
     obtain ⟨⟨b1, b2⟩, ⟨b3, b4⟩, ⟨b5, b6⟩, ⟨b7, b8⟩, ⟨b9, b10⟩, ⟨b11, b12⟩, b13⟩ := hab
     simp only [q7z] at kl2
     have kn : Hid ((a.l.length + 1) * 56 ≤ 140737488355328) := ⟨by rw [kl2.out, List.length_map, List.length_take]; have := km.out; omega⟩
     repeat' (first 
      | (with_reducible refine Lit.imm ?_)
      | (simp -dsimp -implicitDefEqProofs [-q5f, *]))
     refine q7i k01 q96 ha (by simp [*]) [q97 n] rfl rfl kn.out fun a' ha' hl' hb' => ?_
     have kl3 : Hid (a'.l = (k.take (i + 1)).map q97) := ⟨by rw [hl', kT.out, kl2.out]⟩
     clear hl' kl2 kT kn
     simp -dsimp -implicitDefEqProofs [*] at hb'
     obtain ⟨⟨c1, c2⟩, ⟨c3, c4⟩, ⟨c5, c6⟩, ⟨c7, c8⟩, ⟨c9, c10⟩, ⟨c11, c12⟩, c13⟩ := hb'
     repeat' (simp -dsimp -implicitDefEqProofs [-q5f, *])
     exact Next.intro (i + 1, (n : Int), some a') ⟨by simp only; omega, ⟨ha', ⟨⟨c1, c2⟩, ⟨c3, c4⟩, ⟨c5, c6⟩, ⟨c7, c8⟩, ⟨c9, c10⟩, ⟨c11, c12⟩, c13⟩⟩, kl3.out⟩ (by simp only; omega) (by simp) q5q
   ·have e : i = k.length := by omega
    subst e
    rw [List.take_length] at kl2
    cases o with
    | none => exact absurd (congrArg List.length kl2.out) (by have := h.k0; simp; omega)
    | some ak =>
    obtain ⟨hak, hakb⟩ := ho
    simp only [q7z] at kl2
    simp only [k10, q8q]
    have kak : Hid (ak.Ok k2n 4 ∧ ak.l = k.map q97) := ⟨hak, kl2.out⟩
    clear hak kl2 hi hil
    simp only [q6u] at hakb
    obtain ⟨⟨b1, b2⟩, ⟨b3, b4⟩, ⟨b5, b6⟩, ⟨b7, b8⟩, ⟨b9, b10⟩, ⟨b11, b12⟩, b13⟩ := hakb
    have hq1 : q.l.length ≤ q.R.length := by rw [hqo.len, Nat.mul_one]; exact hqo.le
    have hq2 : List.take q.l.length q.R = q5e salt := by have := hqo.row; rw [Nat.mul_one] at this; rw [this, kl.out]
    have hbo := k9s salt
    have hsS : (⟨(salt.map fun b => UInt8.ofNat b.toNat).toArray⟩ : ByteArray) = q73 salt := rfl
    have hLl : LR.length = 12 := by rw [← hLR]; rfl
    have kLR : Hid (LR = k2n [q97 r, q97 e, q97 j]) := ⟨by rw [← hLR]; rfl⟩
    generalize q73 salt = x at *
    generalize (salt.map fun b => UInt8.ofNat b.toNat) = bs at hbo hsS
    clear hLR
    repeat' (first 
     | (with_reducible refine Lit.imm ?_)
     | (simp -dsimp -implicitDefEqProofs [-q5f, *]))
    refine k9a (cs := LR) LR (by simp [*]) hLl (by rw [List.take_of_length_le (by omega)]) (by omega) (by omega) rfl (by omega) fun lb' cap' R' h1 h2 h3 h4 h5 => ?_
    simp -dsimp -implicitDefEqProofs [*] at h1
    obtain ⟨⟨c1, c2⟩, ⟨c3, c4⟩, ⟨c5, c6⟩, ⟨c7, c8⟩, ⟨c9, c10⟩, ⟨c11, c12⟩, c13⟩ := h1
    have k5 : Hid (R'.take (6 * 4) = LR ++ [.int 3, .int 0, q7u, .own am.b 0 am.l.length am.cap, .int 3, .int 0, q7u, .own ak.b 0 ak.l.length ak.cap, .int 2, .int 0, .str x, .nil]) := ⟨h5⟩
    clear h5 h4
    repeat' (simp -dsimp -implicitDefEqProofs [-q5f, *])
    have e1 : Frzs lb' (.arr T.apiValue R') [.agg [.int 3, .int 0, q7u, .own lb' 0 6 cap']] [.agg [.int 3, .int 0, q7u, .list false ((R'.drop 0).take (6 * 4)) 6]] :=
     .cons (.agg (.cons (.refl _) (.cons (.refl _) (.cons (.refl _) (.cons (.own _ _ _ _ _ 4 rfl (by omega) h3) .nil))))) .nil
    rw [List.drop_zero, k5.out] at e1
    have e2 : Frzs ak.b (.arr T.apiValue ak.R) [.agg [.int 3, .int 0, q7u, .list false (LR ++ [.int 3, .int 0, q7u, .own am.b 0 am.l.length am.cap, .int 3, .int 0, q7u, .own ak.b 0 ak.l.length ak.cap, .int 2, .int 0, .str x, .nil]) 6]] [.agg [.int 3, .int 0, q7u, .list false (LR ++ [.int 3, .int 0, q7u, .own am.b 0 am.l.length am.cap, .int 3, .int 0, q7u, .list false (k2n ak.l) ak.l.length, .int 2, .int 0, .str x, .nil]) 6]] :=
     .cons (.agg (.cons (.refl _) (.cons (.refl _) (.cons (.refl _) (.cons (.list _ _ (Frzs.append (Frzs.refl _) (.cons (.refl _) (.cons (.refl _) (.cons (.refl _) (.cons (.refl _) (.cons (.refl _) (.cons (.refl _) (.cons (.refl _) (.cons (Frz.acc kak.out.1) (Frzs.refl _)))))))))))  .nil))))) .nil
    have e3 : Frzs am.b (.arr T.apiValue am.R) [.agg [.int 3, .int 0, q7u, .list false (LR ++ [.int 3, .int 0, q7u, .own am.b 0 am.l.length am.cap, .int 3, .int 0, q7u, .list false (k2n ak.l) ak.l.length, .int 2, .int 0, .str x, .nil]) 6]] [.agg [.int 3, .int 0, q7u, .list false (LR ++ [.int 3, .int 0, q7u, .list false (k2n am.l) am.l.length, .int 3, .int 0, q7u, .list false (k2n ak.l) ak.l.length, .int 2, .int 0, .str x, .nil]) 6]] :=
     .cons (.agg (.cons (.refl _) (.cons (.refl _) (.cons (.refl _) (.cons (.list _ _ (Frzs.append (Frzs.refl _) (.cons (.refl _) (.cons (.refl _) (.cons (.refl _) (.cons (Frz.acc kam.out.1) (Frzs.refl _))))))) .nil))))) .nil
    have eq : (z5c (parts r e j m k x)).row = [.int 3, .int 0, q7u, .list false (LR ++ [.int 3, .int 0, q7u, .list false (k2n am.l) am.l.length, .int 3, .int 0, q7u, .list false (k2n ak.l) ak.l.length, .int 2, .int 0, .str x, .nil]) 6] := by
     rw [kLR.out, kam.out.2, kak.out.2]; rfl
    have hEnc := hE st1
    rw [eq] at hEnc
    have hs1 : StLe ((lb', .arr T.apiValue R') :: (ak.b, .arr T.apiValue ak.R) :: (am.b, .arr T.apiValue am.R) :: st1) ((lb', .arr T.apiValue R') :: (w, .arr T.apiValue [.int 3, .int 0, q7u, .own ak.b 0 ak.l.length ak.cap]) :: (ak.b, .arr T.apiValue ak.R) :: (v, .arr T.apiValue [.int 3, .int 0, q7u, .own am.b 0 am.l.length am.cap]) :: (am.b, .arr T.apiValue am.R) :: (nb, .arr T.apiValue [.int 1, .int X, q7u, .nil]) :: (q.b, .arr T.uint8 q.R) :: st1) := by
     clear e1 e2 e3 hEnc hE eq k5 kLR kam kak kl
     exact q5q
    have n1 : q6u ((ak.b, .arr T.apiValue ak.R) :: (am.b, .arr T.apiValue am.R) :: st1) lb' := ⟨⟨c3, c4⟩, ⟨c7, c8⟩, c13⟩
    have n2 : q6u ((am.b, .arr T.apiValue am.R) :: st1) ak.b := ⟨⟨b5, b6⟩, b13⟩
    refine q50 (PCalls.frz n1 hs1 e1 (PCalls.frz n2 (.refl _) e2 (PCalls.frz a9 (.refl _) e3 hEnc))) ?_
    rintro _ _ ⟨rfl, rfl⟩
    rw [q7m]
    clear e1 e2 e3 hEnc hE eq hs1 k5 kLR kam kak kl
    repeat' (simp -dsimp -implicitDefEqProofs [-q5f, *])
    exact .drop hst1 ⟨rfl, rfl⟩
open Go.Pv Go.Pv.Sha
set_option maxRecDepth 100000
set_option maxHeartbeats 4000000
def q7c (l : List Int) (most : Int) : Bool := decide (1 ≤ l.length) && decide (l.length ≤ 64) && l.all (fun n => wi n most)
theorem z3j (r e j : Int) (st : q5d) : Rets P F.q30 [.int r, .int e, .int j] st (.bool (q7y r e j)) := by
 refine H.q30.pure q5n rfl rfl ?_
 repeat' (first 
  | (with_reducible refine And.intro (fun h => ?_) (fun h => ?_)) <;> (try (exfalso; omega))
  | (simp -dsimp -implicitDefEqProofs [q7y, wi, *]))
 all_goals first
  | (intros; omega)
  | (have h7 : r ≤ 7 := by omega
     have h8 : e ≤ 4095 := by omega
     rw [decide_eq_true h7, decide_eq_true h8, Bool.true_and, Bool.true_and]
     exact decide_eq_decide.2 (by omega))
theorem k4k (t : Bool) (l : List Int) (hl : l.length ≤ 9223372036854775807) (most : Int) (st : q5d) : Rets P F.q23 [q5k t l, .int most] st (.bool (q7c l most)) := by
 refine H.q23.pure q5n rfl rfl ?_
 repeat' (simp -dsimp -implicitDefEqProofs [*])
 refine q5g (fun i : Nat => [(0, q5k t l), (1, .int most), (5, .int (i : Nat))]) (fun _ => st) (fun i => i ≤ l.length ∧ ∀ n ∈ l.take i, wi n most = true) (fun i => l.length - i) 0 ⟨by omega, by simp⟩ (by simp) (.refl _) ?_
 rintro i ⟨hi, ha⟩
 have ka : Hid (∀ n ∈ l.take i, wi n most = true) := ⟨ha⟩
 clear ha
 by_cases hil : i < l.length
 ·have hg := q6d l i hil
  have hwi := q5h (n := i) (by omega)
  have kT : Hid (l.take (i + 1) = l.take i ++ [l[i]]) := ⟨List.take_succ_eq_append_getElem hil⟩
  have hall : wi l[i] most = false → q7c l most = false := fun h => by
   have : l.all (fun n => wi n most) = false := by
    rw [List.all_eq_false]; exact ⟨l[i], List.getElem_mem hil, by simp [h]⟩
   simp [q7c, this]
  have hno1 : l[i] < 0 → q7c l most = false := fun h => hall (by simp [wi]; omega)
  have hno2 : most < l[i] → q7c l most = false := fun h => hall (by simp [wi]; omega)
  clear hall
  have ka3 : Hid (0 ≤ l[i] → l[i] ≤ most → ∀ x ∈ l.take (i + 1), wi x most = true) := ⟨fun h1 h2 => by
   rw [kT.out]
   intro x hx
   rcases List.mem_append.1 hx with hx | hx
   ·exact ka.out x hx
   ·obtain rfl : x = l[i] := by simpa using hx
    simp [wi]; omega⟩
  repeat' (first 
   | (with_reducible refine And.intro (fun h => ?_) (fun h => ?_)) <;> (try (exfalso; omega))
   | (simp -dsimp -implicitDefEqProofs [*]))
  exact Next.intro (i + 1) ⟨by omega, ka3.out (by omega) (by omega)⟩ (by omega) (by simp) q5q
 ·have e : i = l.length := by omega
  subst e
  rw [List.take_length] at ka
  have hA : l.all (fun n => wi n most) = true := List.all_eq_true.2 ka.out
  have hE : q7c l most = (decide (1 ≤ l.length) && decide (l.length ≤ 64)) := by simp [q7c, hA]
  rw [hE]
  clear hE hA ka
  repeat' (first 
   | (with_reducible refine And.intro (fun h => ?_) (fun h => ?_)) <;> (try (exfalso; omega))
   | (simp -dsimp -implicitDefEqProofs [*]))
  all_goals first
   | (intros; omega)
   | (have h7 : 1 ≤ l.length := by omega
      rw [decide_eq_true h7, Bool.true_and]
      exact decide_eq_decide.2 (by omega))
def y42 (l : List Int) (most : Int) (st : q5d) (e : PEnd) (s : q5d) : Prop := ∃ x : Int, (0 ≤ x ↔ l.all (fun n => wi n most) = false) ∧ e = .ret (.int x) ∧ s = st
theorem j0l (t : Bool) (l : List Int) (hl : l.length ≤ 100000) (most : Int) (st : q5d) : PCalls P F.q04 [q5k t l, .func (.func F.q4j) [] [.iptr [.int most] 0]] st (y42 l most st) := by
 refine H.q04.view q5n rfl rfl ?_
 repeat' (simp -dsimp -implicitDefEqProofs [*])
 refine q5g (fun i : Nat => [(0, q5k t l), (1, .func (.func F.q4j) [] [.iptr [.int most] 0]), (7, .int l.length), (8, .int (i : Nat))]) (fun _ => st) (fun i => i ≤ l.length ∧ ∀ n ∈ l.take i, wi n most = true) (fun i => l.length - i) 0 ⟨by omega, by simp⟩ (by simp) (.refl _) ?_
 rintro i ⟨hi, ha⟩
 have ka : Hid (∀ n ∈ l.take i, wi n most = true) := ⟨ha⟩
 clear ha
 by_cases hil : i < l.length
 ·have hg := q6d l i hil
  have hwi := q5h (n := i) (by omega)
  have kT : Hid (l.take (i + 1) = l.take i ++ [l[i]]) := ⟨List.take_succ_eq_append_getElem hil⟩
  have h1 := fun st => j3d l[i] most st
  cases hw : wi l[i] most with
  | false =>
   have hall : Hid (l.all (fun n => wi n most) = false) := ⟨by rw [List.all_eq_false]; exact ⟨l[i], List.getElem_mem hil, by simp [hw]⟩⟩
   rw [hw] at h1
   repeat' (first 
    | (with_reducible refine Rets.xcall (h1 _) ?_)
    | (simp -dsimp -implicitDefEqProofs [*]))
   exact .same ⟨i, ⟨fun _ => hall.out, fun _ => by omega⟩, rfl, rfl⟩
  | true =>
   have ka3 : Hid (∀ x ∈ l.take (i + 1), wi x most = true) := ⟨by
    rw [kT.out]
    intro x hx
    rcases List.mem_append.1 hx with hx | hx
    ·exact ka.out x hx
    ·obtain rfl : x = l[i] := by simpa using hx
     exact hw⟩
   rw [hw] at h1
   repeat' (first 
    | (with_reducible refine Rets.xcall (h1 _) ?_)
    | (simp -dsimp -implicitDefEqProofs [*]))
   exact Next.intro (i + 1) ⟨by omega, ka3.out⟩ (by omega) (by simp) q5q
 ·have e : i = l.length := by omega
  subst e
  rw [List.take_length] at ka
  have hA : Hid (l.all (fun n => wi n most) = true) := ⟨List.all_eq_true.2 ka.out⟩
  clear ka
  repeat' (simp -dsimp -implicitDefEqProofs [*])
  exact .same ⟨-1, ⟨fun h => absurd h (by decide), fun h => by rw [hA.out] at h; cases h⟩, rfl, rfl⟩
theorem z3k (t : Bool) (l : List Int) (hl : l.length ≤ 100000) (most : Int) (st : q5d) : Rets P F.q0n [q5k t l, .func (.func F.q4j) [] [.iptr [.int most] 0]] st (.bool (!l.all (fun n => wi n most))) := by
 refine H.q0n.pure q5n rfl rfl ?_
 have hi := fun st => j0l t l hl most st
 generalize hA : l.all (fun n => wi n most) = A at *
 repeat' (simp -dsimp -implicitDefEqProofs [*])
 refine q50 (hi _) ?_
 rintro e s ⟨x, hx, rfl, rfl⟩
 rw [q7m]
 rw [hA] at hx
 clear hi hA
 cases A with
 | true =>
  have h : ¬ 0 ≤ x := fun h => by have := hx.1 h; cases this
  clear hx
  repeat' (simp -dsimp -implicitDefEqProofs [*])
 | false =>
  have h : 0 ≤ x := hx.2 rfl
  clear hx
  repeat' (simp -dsimp -implicitDefEqProofs [*])
theorem k2o (t : Bool) (l : List Int) (hl : l.length ≤ 100000) (most : Int) (st : q5d) : Rets P F.q4p [q5k t l, .int most] st (.bool (q7c l most)) := by
 refine H.q4p.pure q5n rfl rfl ?_
 have hw1 : IntKind.i64.wrap ((l.length : Int) - 1) = (l.length : Int) - 1 := q5m (by omega) (by omega)
 have hwi := fun st => q8z ((l.length : Int) - 1) 63 st
 have hcc := fun st => z3k t l hl most st
 have hE : q7c l most = (wi ((l.length : Int) - 1) 63 && l.all (fun n => wi n most)) := by
  unfold q7c
  congr 1
  simp only [wi]
  congr 1 <;> exact decide_eq_decide.2 (by omega)
 rw [hE]
 clear hE
 generalize l.all (fun n => wi n most) = A at *
 cases hb : wi ((l.length : Int) - 1) 63 with
 | false =>
  rw [hb] at hwi
  clear hcc
  repeat' (first 
   | (with_reducible refine Fresh.intro fun b hb => ?_) <;> (try simp -dsimp -implicitDefEqProofs [*] at hb)
   | (with_reducible refine Rets.xcall (hwi _) ?_)
   | (simp -dsimp -implicitDefEqProofs [*]))
 | true =>
  rw [hb] at hwi
  repeat' (first 
   | (with_reducible refine Fresh.intro fun b hb => ?_) <;> (try simp -dsimp -implicitDefEqProofs [*] at hb)
   | (with_reducible refine Rets.xcall (hwi _) ?_)
   | (simp -dsimp -implicitDefEqProofs [*]))
  refine k51 ‹_› (.refl _) (.cons (.refl _) (.cons (.func _ .nil (.cons (.ptr _ _ 0 rfl) .nil)) .nil)) (hcc _) ?_
  rw [q7m]
  clear hcc hwi
  repeat' (simp -dsimp -implicitDefEqProofs [*])
open Go.Pv Go.Pv.Sha
set_option maxRecDepth 100000
set_option maxHeartbeats 4000000
abbrev QI : Int := 1073741789
theorem j0m (x y : Int) (hx : 0 ≤ x) (hx2 : x < 2000000000) (hy : 0 ≤ y) (hy2 : y < 2000000000) (st : q5d) : Rets P F.q4m [.int x, .int y] st (.int ((x + y) % QI)) := by
 refine H.q4m.pure q5n rfl rfl ?_
 have w1 : IntKind.i64.wrap (x + y) = x + y := q5m (by omega) (by omega)
 have e : (x + y).tmod 1073741789 = (x + y) % QI := Int.tmod_eq_emod_of_nonneg (by omega)
 have q0 : 0 ≤ (x + y) % QI := Int.emod_nonneg _ (by decide)
 have q1 : (x + y) % QI < 1073741789 := Int.emod_lt_of_pos _ (by decide)
 have w2 : IntKind.i64.wrap ((x + y) % QI) = (x + y) % QI := q5m (by omega) (by omega)
 repeat' (simp -dsimp -implicitDefEqProofs [*])
def z5e (c k : Int) : Int := if c < k then c + QI - k else c - k
theorem j0n (x y : Int) (hx : 0 ≤ x) (hx2 : x < 2000000000) (hy : 0 ≤ y) (hy2 : y < 2000000000) (st : q5d) : Rets P F.q4n [.int x, .int y] st (.int (z5e x y)) := by
 refine H.q4n.pure q5n rfl rfl ?_
 have w1 : IntKind.i64.wrap (x + 1073741789) = x + 1073741789 := q5m (by omega) (by omega)
 have w2 : IntKind.i64.wrap (x + 1073741789 - y) = x + 1073741789 - y := q5m (by omega) (by omega)
 have w3 : IntKind.i64.wrap (x - y) = x - y := q5m (by omega) (by omega)
 by_cases h : x < y
 ·have e : z5e x y = x + 1073741789 - y := if_pos h
  repeat' (simp -dsimp -implicitDefEqProofs [*])
 ·have e : z5e x y = x - y := if_neg h
  repeat' (simp -dsimp -implicitDefEqProofs [*])
theorem z86 (g : FuncId) (f : Int → Int → Int) (t u : Bool) (l m : List Int) (hl : l.length ≤ 1000) (hm : l.length = m.length) (hf : ∀ (i : Nat) (h : i < l.length) (st : q5d), Rets P g [.int l[i], .int (m[i]'(by omega))] st (.int (f l[i] (m[i]'(by omega))))) (st : q5d) :
  Rets P F.q1b [q5k t l, q5k u m, .func (.func g) [] []] st (q5k false (List.zipWith f l m)) := by
 refine H.q1b.view q5n rfl rfl ?_
 repeat' (simp -dsimp -implicitDefEqProofs [-q5f, *])
 refine q5g (fun y : Nat × Option (Acc Int) => [(1, q5k u m), (2, .func (.func g) [] []), (6, k1p y.2), (9, q5k t l), (10, .int l.length), (11, .int (y.1 : Nat))]) (fun y => q6o T.int st y.2) (fun y => y.1 ≤ l.length ∧ accOk q6j 1 st y.2 ∧ q5y y.2 = (List.zipWith f l m).take y.1) (fun y => l.length - y.1) (0, none) ⟨by omega, trivial, rfl⟩ (by simp; omega) (.refl _) ?_
 rintro ⟨i, o⟩ ⟨hi, ho, hol⟩
 simp only at hi ho hol
 have kl : Hid (q5y o = (List.zipWith f l m).take i) := ⟨hol⟩
 clear hol
 by_cases hil : i < l.length
 ·have him : i < m.length := by omega
  have hg := q6d l i hil
  have hg2 := q6d m i him
  have hwi := q5h (n := i) (by omega)
  have hz : i < (List.zipWith f l m).length := by rw [List.length_zipWith]; omega
  have kT : Hid ((List.zipWith f l m).take (i + 1) = (List.zipWith f l m).take i ++ [f l[i] m[i]]) := ⟨by rw [List.take_succ_eq_append_getElem hz, List.getElem_zipWith]⟩
  have hf1 := fun st => hf i hil st
  have kn : Hid ((q5y o).length ≤ 1000) := ⟨by rw [kl.out, List.length_take]; omega⟩
  clear hf
  repeat' (first 
   | (with_reducible refine Rets.xcall (hf1 _) ?_)
   | (with_reducible refine Lit.imm ?_)
   | (simp -dsimp -implicitDefEqProofs [-q5f, *]))
  refine q6t k34 k0j o ho [f l[i] m[i]] rfl rfl (by have := kn.out; omega) fun o' ho' hl' => ?_
  have kl' : Hid (q5y o' = (List.zipWith f l m).take (i + 1)) := ⟨by rw [hl', kl.out, kT.out]⟩
  clear hl' kl kT
  repeat' (simp -dsimp -implicitDefEqProofs [-q5f, *])
  exact Next.intro (i + 1, o') ⟨by simp only; omega, ho', kl'.out⟩ (by simp only; omega) (by simp; omega) q5q
 ·have e : i = l.length := by omega
  have kl' : Hid (q5y o = List.zipWith f l m) := ⟨by rw [kl.out]; exact List.take_of_length_le (by rw [List.length_zipWith]; omega)⟩
  subst e
  clear kl hf
  repeat' (simp -dsimp -implicitDefEqProofs [-q5f, *])
  exact RetView.accP1 rfl ho (.same ⟨by rw [kl'.out], rfl⟩)
open Go.Pv Go.Pv.Sha
set_option maxRecDepth 100000
set_option maxHeartbeats 4000000
theorem z5f (t : Bool) (l : List Int) (hl : l.length ≤ 9223372036854775807) (st : q5d) : Rets P F.q2s [q5k t l] st (.bool (q7c l 1000)) := by
 refine H.q2s.pure q5n rfl rfl ?_
 have h := fun st => k4k t l hl 1000 st
 repeat' (first 
  | (with_reducible refine Rets.xcall (h _) ?_)
  | (simp -dsimp -implicitDefEqProofs [*]))
theorem z7a (t : Bool) (l : List Int) (hl : l.length ≤ 9223372036854775807) (st : q5d) : Rets P F.q22 [q5k t l] st (.bool (q7c l 1073741788)) := by
 refine H.q22.pure q5n rfl rfl ?_
 have h := fun st => k4k t l hl 1073741788 st
 repeat' (first 
  | (with_reducible refine Rets.xcall (h _) ?_)
  | (simp -dsimp -implicitDefEqProofs [*]))
theorem k6a (t : Bool) (l : List Int) (hl : l.length ≤ 100000) (st : q5d) : Rets P F.q2s [q5k t l] st (.bool (q7c l 1000)) := z5f t l (by omega) st
theorem k3p (t : Bool) (l : List Int) (hl : l.length ≤ 100000) (st : q5d) : Rets P F.q22 [q5k t l] st (.bool (q7c l 1073741788)) := z7a t l (by omega) st
end Go.Proofs.YtnooplpbpfiapaaGreatDoor
