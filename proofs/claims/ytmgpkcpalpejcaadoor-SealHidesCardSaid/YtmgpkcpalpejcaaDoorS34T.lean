/- Commitments by the reference. -/
import Derived.Test.YtmgpkcpalpejcaaDoorS34R
namespace Go.Proofs.YtmgpkcpalpejcaaDoor
open Go.Pv Go.Pv.Sha
set_option maxRecDepth 100000
set_option maxHeartbeats 4000000
theorem Frzs.append {b : Nat} {o : PObj} : ∀ {ps qs rs us : List PV}, Frzs b o ps qs → Frzs b o rs us → Frzs b o (ps ++ rs) (qs ++ us)
  | _, _, _, _, .nil, h => h
  | _, _, _, _, .cons h t, k => .cons h (Frzs.append t k)
theorem refText_spec (t u : Bool) {r e j : Nat} {m k : List Nat} (salt : List (BitVec 8)) (hs : salt.length = 32) (h : Fit r e j m k (saltS salt)) (st : Store) : Rets P F.podiumref34_Text [.int (r : Int), .int (e : Int), .int (j : Int), natLst t m, natLst u k, .agg (byteRow salt)] st (byteLst false (comB r e j m k (saltS salt))) := by
  refine H.podiumref34_Text.view hmix rfl rfl ?_
  have hE := fun st => refEncodeW h st
  have hsl : (byteRow salt).length = 32 := by simp [hs]
  repeat' (first 
   | (with_reducible refine Fresh.intro fun b hb => ?_) <;> (try simp -dsimp -implicitDefEqProofs [*] at hb)
   | (with_reducible refine Lit.imm ?_)
   | (simp -dsimp -implicitDefEqProofs [-xappend_list, *]))
  refine xloop_for (fun y : Nat × Option (Acc (BitVec 8)) => [(0, .int (r : Int)), (1, .int (e : Int)), (2, .int (j : Int)), (3, natLst t m), (4, natLst u k), (11, .ptr b 0), (13, accT y.2), (14, .int (y.1 : Nat))]) (fun y => accS T.uint8 ((b, .arr T.apiDigest (byteRow salt)) :: st) y.2) (fun y => y.1 ≤ 32 ∧ accOk byteRow 1 ((b, .arr T.apiDigest (byteRow salt)) :: st) y.2 ∧ accL y.2 = salt.take y.1) (fun y => 32 - y.1) (0, none) ⟨by omega, trivial, rfl⟩ (by simp) (.refl _) ?_
  rintro ⟨i, q⟩ ⟨hi, hq, hql⟩
  simp only at hi hq hql
  have kl : Hid (accL q = salt.take i) := ⟨hql⟩
  clear hql
  have hgb := sget_acc (T := T.uint8) hq (b := b) (x := .arr T.apiDigest (byteRow salt)) (by simp)
  by_cases hil : i < 32
  · have hg : (byteRow salt)[i]? = some (bv salt[i]) := byteRow_get salt i (by omega)
    have hwi := wrap_succ (n := i) (by omega)
    have kT : Hid (salt.take (i + 1) = salt.take i ++ [salt[i]]) := ⟨List.take_succ_eq_append_getElem (by omega)⟩
    have hgE : ∀ h : i < (byteRow salt).length, (byteRow salt)[i]'h = bv salt[i] := fun h => by rw [List.getElem?_eq_getElem h] at hg; exact Option.some.inj hg
    generalize salt[i] = x at *
    generalize byteRow salt = sr at *
    have kn : Hid ((accL q).length ≤ 32) := ⟨by rw [kl.out, List.length_take]; omega⟩
    repeat' (first 
     | (with_reducible refine Lit.imm ?_)
     | (with_reducible refine And.intro (fun h => ?_) (fun h => ?_)) <;> (try (exfalso; omega))
     | ((with_reducible refine and_keep ?_ fun hk => ?_); omega)
     | (simp -dsimp -implicitDefEqProofs [-xappend_list, *]))
    refine xappend_accT0 byteRow_len byteRow_append q hq [x] rfl rfl (by have := kn.out; omega) fun q' hq' hl' => ?_
    have kl' : Hid (accL q' = salt.take (i + 1)) := ⟨by rw [hl', kl.out, kT.out]⟩
    clear hl' kl kT
    repeat' (simp -dsimp -implicitDefEqProofs [-xappend_list, *])
    exact Next.intro (i + 1, q') ⟨by simp only; omega, hq', kl'.out⟩ (by simp only; omega) (by simp) (by repeat' (first | exact StLe.refl _ | (refine StLe_cons (by simp [*]; done) ?_) | (refine StLe_fresh (by simp [*]; done) ?_)))
  · have e : i = 32 := by omega
    subst e
    rw [List.take_of_length_le (by omega)] at kl
    cases q with
    | none => exact absurd (congrArg List.length kl.out) (by simp [hs])
    | some q =>
    simp only [accOk_some, accL_some, accS_some, accT_some] at hq kl hgb ⊢
    obtain ⟨hqo, hqb⟩ := hq
    have hst1 : StLe st ((b, .arr T.apiDigest (byteRow salt)) :: st) := .fresh ‹_›
    clear hgb
    generalize (b, PObj.arr T.apiDigest (byteRow salt)) :: st = st1 at *
    repeat' (first 
     | (with_reducible refine Fresh.intro fun b hb => ?_) <;> (try simp -dsimp -implicitDefEqProofs [*] at hb)
     | (with_reducible refine Lit.own (len := 3) fun b hb => ?_) <;> (try simp -dsimp -implicitDefEqProofs [*] at hb)
     | (simp -dsimp -implicitDefEqProofs [-xappend_list, *]))
    revert b
    intro v hv
    revert b
    intro lb hlb hv
    revert b
    intro nb hnb hlb hv
    generalize hLR : [PV.val (Value.int IntKind.i64 1), PV.val (Value.int IntKind.i64 (r : Int)), PV.val (Value.string { data := #[] }), PV.nil, PV.val (Value.int IntKind.i64 1), PV.val (Value.int IntKind.i64 (e : Int)), PV.val (Value.string { data := #[] }), PV.nil, PV.val (Value.int IntKind.i64 1), PV.val (Value.int IntKind.i64 (j : Int)), PV.val (Value.string { data := #[] }), PV.nil] = LR
    refine xloop_for (fun y : Nat × Int × Option (Acc Wv) => [(3, natLst t m), (4, natLst u k), (13, .own q.b 0 q.l.length q.cap), (15, .ptr nb 0), (16, .own lb 0 3 3), (17, .ptr v 0), (18, .int (y.1 : Nat))]) (fun y => (v, .arr T.apiValue [.int 3, .int 0, noStr, accP y.2.2]) :: accS T.apiValue ((lb, .arr T.apiValue LR) :: (nb, .arr T.apiValue [.int 1, .int y.2.1, noStr, .nil]) :: (q.b, .arr T.uint8 q.R) :: st1) y.2.2) (fun y => y.1 ≤ m.length ∧ accOk wvRow 4 ((v, .arr T.apiValue []) :: (lb, .arr T.apiValue LR) :: (nb, .arr T.apiValue []) :: (q.b, .arr T.uint8 q.R) :: st1) y.2.2 ∧ accL y.2.2 = (m.take y.1).map intW) (fun y => m.length - y.1) (0, 0, none) ⟨by omega, trivial, rfl⟩ (by simp) (.refl _) ?_
    rintro ⟨i, X, o⟩ ⟨hi, ho, hol⟩
    simp only at hi ho hol
    have kl2 : Hid (accL o = (m.take i).map intW) := ⟨hol⟩
    clear hol
    by_cases hil : i < m.length
    · have hg : (m.map fun n : Nat => PV.int (n : Int))[i]? = some (.int (m[i] : Nat)) := by simp [hil]
      have hwi := wrap_succ (n := i) (by have := h.m1; omega)
      have kT : Hid ((m.take (i + 1)).map intW = (m.take i).map intW ++ [intW m[i]]) := ⟨by rw [List.take_succ_eq_append_getElem hil, List.map_append]; rfl⟩
      have hlen : (m.map fun n : Nat => PV.int (n : Int)).length = m.length := by simp
      have km : Hid (m.length ≤ 100) := ⟨h.m1⟩
      have kfull : Hid (natLst t m = .list t (m.map fun n : Nat => PV.int (n : Int)) m.length) := ⟨rfl⟩
      generalize hms : (m.map fun n : Nat => PV.int (n : Int)) = ms at *
      have hgE : ∀ h : i < ms.length, ms[i]'h = .int (m[i] : Nat) := fun h => by rw [List.getElem?_eq_getElem h] at hg; exact Option.some.inj hg
      generalize m[i] = n at *
      cases o with
      | none =>
        repeat' (first 
         | (with_reducible refine Lit.imm ?_)
         | (simp -dsimp -implicitDefEqProofs [-xappend_list, *]))
        refine xappend_acc0 wvRow_len [intW n] rfl rfl (by omega) (by omega) fun a' ha' hl' hb' => ?_
        have kl3 : Hid (a'.l = (m.take (i + 1)).map intW) := ⟨by rw [hl', kT.out, ← kl2.out]; rfl⟩
        have kb : Hid (snew ((v, .arr T.apiValue []) :: (lb, .arr T.apiValue LR) :: (nb, .arr T.apiValue []) :: (q.b, .arr T.uint8 q.R) :: st1) a'.b) := ⟨hb'⟩
        simp only [snew] at hb'
        clear hl' ho
        repeat' (simp -dsimp -implicitDefEqProofs [-xappend_list, *])
        exact Next.intro (i + 1, (n : Int), some a') ⟨by simp only; omega, ⟨ha', kb.out⟩, kl3.out⟩ (by simp only; omega) (by simp) (by repeat' (first | exact StLe.refl _ | (refine StLe_cons (by simp [*]; done) ?_) | (refine StLe_fresh (by simp [*]; done) ?_)))
      | some a =>
        obtain ⟨ha, hab⟩ := ho
        simp only [snew] at hab
        obtain ⟨⟨a1, a2⟩, ⟨a3, a4⟩, ⟨a5, a6⟩, ⟨a7, a8⟩, a9⟩ := hab
        simp only [accL_some] at kl2
        have kn : Hid ((a.l.length + 1) * 56 ≤ 140737488355328) := ⟨by rw [kl2.out, List.length_map, List.length_take]; have := km.out; omega⟩
        repeat' (first 
         | (with_reducible refine Lit.imm ?_)
         | (simp -dsimp -implicitDefEqProofs [-xappend_list, *]))
        refine xappend_acc wvRow_len wvRow_append ha (by simp [*]) [intW n] rfl rfl kn.out fun a' ha' hl' hb' => ?_
        have kl3 : Hid (a'.l = (m.take (i + 1)).map intW) := ⟨by rw [hl', kT.out, kl2.out]⟩
        clear hl' kl2 kT kn
        simp -dsimp -implicitDefEqProofs [*] at hb'
        obtain ⟨⟨c1, c2⟩, ⟨c3, c4⟩, ⟨c5, c6⟩, ⟨c7, c8⟩, c9⟩ := hb'
        repeat' (simp -dsimp -implicitDefEqProofs [-xappend_list, *])
        exact Next.intro (i + 1, (n : Int), some a') ⟨by simp only; omega, ⟨ha', ⟨⟨c1, c2⟩, ⟨c3, c4⟩, ⟨c5, c6⟩, ⟨c7, c8⟩, c9⟩⟩, kl3.out⟩ (by simp only; omega) (by simp) (by repeat' (first | exact StLe.refl _ | (refine StLe_cons (by simp [*]; done) ?_) | (refine StLe_fresh (by simp [*]; done) ?_)))
    · have e : i = m.length := by omega
      subst e
      rw [List.take_length] at kl2
      cases o with
      | none => exact absurd (congrArg List.length kl2.out) (by have := h.m0; simp; omega)
      | some am =>
      obtain ⟨ham, hamb⟩ := ho
      simp only [accL_some] at kl2
      simp only [accP_some, accS_some]
      have kam : Hid (am.Ok wvRow 4 ∧ am.l = m.map intW) := ⟨ham, kl2.out⟩
      clear ham kl2 hi hil
      simp only [snew] at hamb
      obtain ⟨⟨a1, a2⟩, ⟨a3, a4⟩, ⟨a5, a6⟩, ⟨a7, a8⟩, a9⟩ := hamb
      repeat' (first 
       | (with_reducible refine Fresh.intro fun b hb => ?_) <;> (try simp -dsimp -implicitDefEqProofs [*] at hb)
       | (simp -dsimp -implicitDefEqProofs [-xappend_list, *]))
      revert b
      intro w hw
      refine xloop_for (fun y : Nat × Int × Option (Acc Wv) => [(3, natLst t m), (4, natLst u k), (13, .own q.b 0 q.l.length q.cap), (15, .ptr nb 0), (16, .own lb 0 3 3), (17, .ptr v 0), (19, .ptr w 0), (20, .int (y.1 : Nat))]) (fun y => (w, .arr T.apiValue [.int 3, .int 0, noStr, accP y.2.2]) :: accS T.apiValue ((v, .arr T.apiValue [.int 3, .int 0, noStr, .own am.b 0 am.l.length am.cap]) :: (am.b, .arr T.apiValue am.R) :: (lb, .arr T.apiValue LR) :: (nb, .arr T.apiValue [.int 1, .int y.2.1, noStr, .nil]) :: (q.b, .arr T.uint8 q.R) :: st1) y.2.2) (fun y => y.1 ≤ k.length ∧ accOk wvRow 4 ((w, .arr T.apiValue []) :: (v, .arr T.apiValue [.int 3, .int 0, noStr, .own am.b 0 am.l.length am.cap]) :: (am.b, .arr T.apiValue am.R) :: (lb, .arr T.apiValue LR) :: (nb, .arr T.apiValue []) :: (q.b, .arr T.uint8 q.R) :: st1) y.2.2 ∧ accL y.2.2 = (k.take y.1).map intW) (fun y => k.length - y.1) (0, X, none) ⟨by omega, trivial, rfl⟩ (by simp) (.refl _) ?_
      rintro ⟨i, X, o⟩ ⟨hi, ho, hol⟩
      simp only at hi ho hol
      have kl2 : Hid (accL o = (k.take i).map intW) := ⟨hol⟩
      clear hol
      by_cases hil : i < k.length
      · have hg : (k.map fun n : Nat => PV.int (n : Int))[i]? = some (.int (k[i] : Nat)) := by simp [hil]
        have hwi := wrap_succ (n := i) (by have := h.k1; omega)
        have kT : Hid ((k.take (i + 1)).map intW = (k.take i).map intW ++ [intW k[i]]) := ⟨by rw [List.take_succ_eq_append_getElem hil, List.map_append]; rfl⟩
        have hlen : (k.map fun n : Nat => PV.int (n : Int)).length = k.length := by simp
        have km : Hid (k.length ≤ 100) := ⟨h.k1⟩
        generalize hms : (k.map fun n : Nat => PV.int (n : Int)) = ms at *
        have hgE : ∀ h : i < ms.length, ms[i]'h = .int (k[i] : Nat) := fun h => by rw [List.getElem?_eq_getElem h] at hg; exact Option.some.inj hg
        generalize k[i] = n at *
        cases o with
        | none =>
          repeat' (first 
           | (with_reducible refine Lit.imm ?_)
           | (simp -dsimp -implicitDefEqProofs [-xappend_list, *]))
          refine xappend_acc0 wvRow_len [intW n] rfl rfl (by omega) (by omega) fun a' ha' hl' hb' => ?_
          have kl3 : Hid (a'.l = (k.take (i + 1)).map intW) := ⟨by rw [hl', kT.out, ← kl2.out]; rfl⟩
          have kb : Hid (snew ((w, .arr T.apiValue []) :: (v, .arr T.apiValue [.int 3, .int 0, noStr, .own am.b 0 am.l.length am.cap]) :: (am.b, .arr T.apiValue am.R) :: (lb, .arr T.apiValue LR) :: (nb, .arr T.apiValue []) :: (q.b, .arr T.uint8 q.R) :: st1) a'.b) := ⟨hb'⟩
          simp only [snew] at hb'
          clear hl' ho
          repeat' (simp -dsimp -implicitDefEqProofs [-xappend_list, *])
          exact Next.intro (i + 1, (n : Int), some a') ⟨by simp only; omega, ⟨ha', kb.out⟩, kl3.out⟩ (by simp only; omega) (by simp) (by repeat' (first | exact StLe.refl _ | (refine StLe_cons (by simp [*]; done) ?_) | (refine StLe_fresh (by simp [*]; done) ?_)))
        | some a =>
          obtain ⟨ha, hab⟩ := ho
          simp only [snew] at hab
          obtain ⟨⟨b1, b2⟩, ⟨b3, b4⟩, ⟨b5, b6⟩, ⟨b7, b8⟩, ⟨b9, b10⟩, ⟨b11, b12⟩, b13⟩ := hab
          simp only [accL_some] at kl2
          have kn : Hid ((a.l.length + 1) * 56 ≤ 140737488355328) := ⟨by rw [kl2.out, List.length_map, List.length_take]; have := km.out; omega⟩
          repeat' (first 
           | (with_reducible refine Lit.imm ?_)
           | (simp -dsimp -implicitDefEqProofs [-xappend_list, *]))
          refine xappend_acc wvRow_len wvRow_append ha (by simp [*]) [intW n] rfl rfl kn.out fun a' ha' hl' hb' => ?_
          have kl3 : Hid (a'.l = (k.take (i + 1)).map intW) := ⟨by rw [hl', kT.out, kl2.out]⟩
          clear hl' kl2 kT kn
          simp -dsimp -implicitDefEqProofs [*] at hb'
          obtain ⟨⟨c1, c2⟩, ⟨c3, c4⟩, ⟨c5, c6⟩, ⟨c7, c8⟩, ⟨c9, c10⟩, ⟨c11, c12⟩, c13⟩ := hb'
          repeat' (simp -dsimp -implicitDefEqProofs [-xappend_list, *])
          exact Next.intro (i + 1, (n : Int), some a') ⟨by simp only; omega, ⟨ha', ⟨⟨c1, c2⟩, ⟨c3, c4⟩, ⟨c5, c6⟩, ⟨c7, c8⟩, ⟨c9, c10⟩, ⟨c11, c12⟩, c13⟩⟩, kl3.out⟩ (by simp only; omega) (by simp) (by repeat' (first | exact StLe.refl _ | (refine StLe_cons (by simp [*]; done) ?_) | (refine StLe_fresh (by simp [*]; done) ?_)))
      · have e : i = k.length := by omega
        subst e
        rw [List.take_length] at kl2
        cases o with
        | none => exact absurd (congrArg List.length kl2.out) (by have := h.k0; simp; omega)
        | some ak =>
        obtain ⟨hak, hakb⟩ := ho
        simp only [accL_some] at kl2
        simp only [accP_some, accS_some]
        have kak : Hid (ak.Ok wvRow 4 ∧ ak.l = k.map intW) := ⟨hak, kl2.out⟩
        clear hak kl2 hi hil
        simp only [snew] at hakb
        obtain ⟨⟨b1, b2⟩, ⟨b3, b4⟩, ⟨b5, b6⟩, ⟨b7, b8⟩, ⟨b9, b10⟩, ⟨b11, b12⟩, b13⟩ := hakb
        have hq1 : q.l.length ≤ q.R.length := by rw [hqo.len, Nat.mul_one]; exact hqo.le
        have hq2 : List.take q.l.length q.R = byteRow salt := by have := hqo.row; rw [Nat.mul_one] at this; rw [this, kl.out]
        have hbo := bytesOf_row salt
        have hsS : (⟨(salt.map fun b => UInt8.ofNat b.toNat).toArray⟩ : ByteArray) = saltS salt := rfl
        have hLl : LR.length = 12 := by rw [← hLR]; rfl
        have kLR : Hid (LR = wvRow [intW r, intW e, intW j]) := ⟨by rw [← hLR]; rfl⟩
        generalize saltS salt = x at *
        generalize (salt.map fun b => UInt8.ofNat b.toNat) = bs at hbo hsS
        clear hLR
        repeat' (first 
         | (with_reducible refine Lit.imm ?_)
         | (simp -dsimp -implicitDefEqProofs [-xappend_list, *]))
        refine xappend_row (cs := LR) LR (by simp [*]) hLl (by rw [List.take_of_length_le (by omega)]) (by omega) (by omega) rfl (by omega) fun lb' cap' R' h1 h2 h3 h4 h5 => ?_
        simp -dsimp -implicitDefEqProofs [*] at h1
        obtain ⟨⟨c1, c2⟩, ⟨c3, c4⟩, ⟨c5, c6⟩, ⟨c7, c8⟩, ⟨c9, c10⟩, ⟨c11, c12⟩, c13⟩ := h1
        have k5 : Hid (R'.take (6 * 4) = LR ++ [.int 3, .int 0, noStr, .own am.b 0 am.l.length am.cap, .int 3, .int 0, noStr, .own ak.b 0 ak.l.length ak.cap, .int 2, .int 0, .str x, .nil]) := ⟨h5⟩
        clear h5 h4
        repeat' (simp -dsimp -implicitDefEqProofs [-xappend_list, *])
        have e1 : Frzs lb' (.arr T.apiValue R') [.agg [.int 3, .int 0, noStr, .own lb' 0 6 cap']] [.agg [.int 3, .int 0, noStr, .list false ((R'.drop 0).take (6 * 4)) 6]] :=
          .cons (.agg (.cons (.refl _) (.cons (.refl _) (.cons (.refl _) (.cons (.own _ _ _ _ _ 4 rfl (by omega) h3) .nil))))) .nil
        rw [List.drop_zero, k5.out] at e1
        have e2 : Frzs ak.b (.arr T.apiValue ak.R) [.agg [.int 3, .int 0, noStr, .list false (LR ++ [.int 3, .int 0, noStr, .own am.b 0 am.l.length am.cap, .int 3, .int 0, noStr, .own ak.b 0 ak.l.length ak.cap, .int 2, .int 0, .str x, .nil]) 6]] [.agg [.int 3, .int 0, noStr, .list false (LR ++ [.int 3, .int 0, noStr, .own am.b 0 am.l.length am.cap, .int 3, .int 0, noStr, .list false (wvRow ak.l) ak.l.length, .int 2, .int 0, .str x, .nil]) 6]] :=
          .cons (.agg (.cons (.refl _) (.cons (.refl _) (.cons (.refl _) (.cons (.list _ _ (Frzs.append (Frzs.refl _) (.cons (.refl _) (.cons (.refl _) (.cons (.refl _) (.cons (.refl _) (.cons (.refl _) (.cons (.refl _) (.cons (.refl _) (.cons (Frz.acc kak.out.1) (Frzs.refl _)))))))))))  .nil))))) .nil
        have e3 : Frzs am.b (.arr T.apiValue am.R) [.agg [.int 3, .int 0, noStr, .list false (LR ++ [.int 3, .int 0, noStr, .own am.b 0 am.l.length am.cap, .int 3, .int 0, noStr, .list false (wvRow ak.l) ak.l.length, .int 2, .int 0, .str x, .nil]) 6]] [.agg [.int 3, .int 0, noStr, .list false (LR ++ [.int 3, .int 0, noStr, .list false (wvRow am.l) am.l.length, .int 3, .int 0, noStr, .list false (wvRow ak.l) ak.l.length, .int 2, .int 0, .str x, .nil]) 6]] :=
          .cons (.agg (.cons (.refl _) (.cons (.refl _) (.cons (.refl _) (.cons (.list _ _ (Frzs.append (Frzs.refl _) (.cons (.refl _) (.cons (.refl _) (.cons (.refl _) (.cons (Frz.acc kam.out.1) (Frzs.refl _))))))) .nil))))) .nil
        have eq : (listW (parts r e j m k x)).row = [.int 3, .int 0, noStr, .list false (LR ++ [.int 3, .int 0, noStr, .list false (wvRow am.l) am.l.length, .int 3, .int 0, noStr, .list false (wvRow ak.l) ak.l.length, .int 2, .int 0, .str x, .nil]) 6] := by
          rw [kLR.out, kam.out.2, kak.out.2]; rfl
        have hEnc := hE st1
        rw [eq] at hEnc
        have hs1 : StLe ((lb', .arr T.apiValue R') :: (ak.b, .arr T.apiValue ak.R) :: (am.b, .arr T.apiValue am.R) :: st1) ((lb', .arr T.apiValue R') :: (w, .arr T.apiValue [.int 3, .int 0, noStr, .own ak.b 0 ak.l.length ak.cap]) :: (ak.b, .arr T.apiValue ak.R) :: (v, .arr T.apiValue [.int 3, .int 0, noStr, .own am.b 0 am.l.length am.cap]) :: (am.b, .arr T.apiValue am.R) :: (nb, .arr T.apiValue [.int 1, .int X, noStr, .nil]) :: (q.b, .arr T.uint8 q.R) :: st1) := by
          clear e1 e2 e3 hEnc hE eq k5 kLR kam kak kl
          exact (by repeat' (first | exact StLe.refl _ | (refine StLe_cons (by simp [*]; done) ?_) | (refine StLe_fresh (by simp [*]; done) ?_)))
        have n1 : snew ((ak.b, .arr T.apiValue ak.R) :: (am.b, .arr T.apiValue am.R) :: st1) lb' := ⟨⟨c3, c4⟩, ⟨c7, c8⟩, c13⟩
        have n2 : snew ((am.b, .arr T.apiValue am.R) :: st1) ak.b := ⟨⟨b5, b6⟩, b13⟩
        refine xcall_post (PCalls.frz n1 hs1 e1 (PCalls.frz n2 (.refl _) e2 (PCalls.frz a9 (.refl _) e3 hEnc))) ?_
        rintro _ _ ⟨rfl, rfl⟩
        rw [xend_ret]
        clear e1 e2 e3 hEnc hE eq hs1 k5 kLR kam kak kl
        repeat' (simp -dsimp -implicitDefEqProofs [-xappend_list, *])
        exact .drop hst1 ⟨rfl, rfl⟩
end Go.Proofs.YtmgpkcpalpejcaaDoor
