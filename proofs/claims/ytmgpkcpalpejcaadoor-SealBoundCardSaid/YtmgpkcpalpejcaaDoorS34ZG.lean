/- The law's own text of a commitment. -/
import Derived.Test.YtmgpkcpalpejcaaDoorS34ZF
namespace Go.Proofs.YtmgpkcpalpejcaaDoor
open Go.Pv Go.Pv.Sha
set_option maxRecDepth 100000
set_option maxHeartbeats 4000000
def OwnVals (st : Store) (l : List Nat) : PEnd → Store → Prop := fun e s => ∃ a : Acc Wv, a.Ok wvRow 4 ∧ snew st a.b ∧ a.l = l.map intW ∧ e = .ret (.agg [.int 3, .int 0, noStr, .own a.b 0 a.l.length a.cap]) ∧ s = (a.b, .arr T.apiValue a.R) :: st
theorem text1_spec (t : Bool) (l : List Nat) (h0 : 0 < l.length) (h1 : l.length ≤ 100) (st : Store) : PCalls P F.podiumlaw34_text_1 [natLst t l] st (OwnVals st l) := by
  refine H.podiumlaw34_text_1.view hmix rfl rfl ?_
  repeat' (first 
   | (with_reducible refine Fresh.intro fun b hb => ?_) <;> (try simp -dsimp -implicitDefEqProofs [*] at hb)
   | (simp -dsimp -implicitDefEqProofs [-xappend_list, *]))
  revert b
  intro y hy
  revert b
  intro p hp hy
  have hyn : snew ((p, .arr T.apiValue [.int 0, .int 0, noStr, .nil]) :: st) y := ⟨hy.1, hy.2⟩
  refine xloop_for (fun s : Nat × Option (Acc Wv) => [(2, .ptr p 0), (3, .ptr y 0), (7, natLst t l), (8, .int l.length), (9, .int (s.1 : Nat))]) (fun s => (y, .arr T.apiValue [.int 3, .int 0, noStr, accP s.2]) :: accS T.apiValue ((p, .arr T.apiValue [.int 0, .int 0, noStr, .nil]) :: st) s.2) (fun s => s.1 ≤ l.length ∧ accOk wvRow 4 ((p, .arr T.apiValue [.int 0, .int 0, noStr, .nil]) :: st) s.2 ∧ snew (accS T.apiValue ((p, .arr T.apiValue [.int 0, .int 0, noStr, .nil]) :: st) s.2) y ∧ accL s.2 = (l.take s.1).map intW) (fun s => l.length - s.1) (0, none) ⟨by omega, trivial, hyn, rfl⟩ (by simp) (.refl _) ?_
  rintro ⟨i, o⟩ ⟨hi, ho, hyo, hol⟩
  simp only at hi ho hyo hol
  have kl : Hid (accL o = (l.take i).map intW) := ⟨hol⟩
  clear hol
  by_cases hil : i < l.length
  · have hg : (l.map fun n : Nat => PV.int (n : Int))[i]? = some (.int (l[i] : Nat)) := by simp [hil]
    have hwi := wrap_succ (n := i) (by omega)
    have kT : Hid ((l.take (i + 1)).map intW = (l.take i).map intW ++ [intW l[i]]) := ⟨by rw [List.take_succ_eq_append_getElem hil, List.map_append]; rfl⟩
    have hlen : (l.map fun n : Nat => PV.int (n : Int)).length = l.length := by simp
    have kn : Hid (((accL o).length + 1) * 56 ≤ 140737488355328) := ⟨by rw [kl.out, List.length_map, List.length_take]; omega⟩
    generalize hms : (l.map fun n : Nat => PV.int (n : Int)) = ms at *
    have hgE : ∀ h : i < ms.length, ms[i]'h = .int (l[i] : Nat) := fun h => by rw [List.getElem?_eq_getElem h] at hg; exact Option.some.inj hg
    generalize l[i] = n at *
    repeat' (first 
     | (with_reducible refine Lit.imm ?_)
     | (simp -dsimp -implicitDefEqProofs [-xappend_list, *]))
    refine xappend_box wvRow_len wvRow_append o ho hyo [intW n] rfl rfl (by omega) (by have := kn.out; omega) fun o' ho' hl' => ?_
    have kl' : Hid (accL o' = (l.take (i + 1)).map intW) := ⟨by rw [hl', kl.out, kT.out]⟩
    clear hl' kl kT kn
    cases o' with
    | none => exact absurd (congrArg List.length kl'.out) (by simp; omega)
    | some a =>
      simp only [accP_some, accS_some, accOk_some, accL_some] at ho' kl' ⊢
      obtain ⟨ha, hab⟩ := ho'
      have hns := (accB_new hyo).2
      clear hyo ho
      obtain ⟨⟨hab1, hab2⟩, ⟨c1, c2⟩, c5⟩ := hab
      repeat' (simp -dsimp -implicitDefEqProofs [-xappend_list, *])
      exact Next.intro (i + 1, some a) ⟨by simp only; omega, ⟨ha, ⟨c1, c2⟩, c5⟩, ⟨⟨hab2, hab1⟩, hns⟩, kl'.out⟩ (by simp only; omega) (by simp) (by repeat' (first | exact StLe.refl _ | (refine StLe_cons (by simp [*]; done) ?_) | (refine StLe_fresh (by simp [*]; done) ?_)))
  · have e : i = l.length := by omega
    have kl' : Hid (accL o = l.map intW) := ⟨by rw [kl.out]; rw [List.take_of_length_le (by omega)]⟩
    subst e
    clear kl
    cases o with
    | none => exact absurd (congrArg List.length kl'.out) (by simp; omega)
    | some a =>
      simp only [accP_some, accS_some, accOk_some, accL_some] at ho kl' hyo ⊢
      obtain ⟨ha, ⟨c1, c2⟩, c5⟩ := ho
      obtain ⟨⟨d1, d2⟩, ⟨d3, d4⟩, d7⟩ := hyo
      have kha : Hid (a.Ok wvRow 4) := ⟨ha⟩
      clear ha
      repeat' (simp -dsimp -implicitDefEqProofs [-xappend_list, *])
      have hle : StLe ((a.b, .arr T.apiValue a.R) :: st) ((y, .arr T.apiValue [.int 3, .int 0, noStr, .own a.b 0 a.l.length a.cap]) :: (a.b, .arr T.apiValue a.R) :: (p, .arr T.apiValue [.int 3, .int 0, noStr, .own a.b 0 a.l.length a.cap]) :: st) := (by repeat' (first | exact StLe.refl _ | (refine StLe_cons (by simp [*]; done) ?_) | (refine StLe_fresh (by simp [*]; done) ?_)))
      exact .drop hle ⟨a, kha.out, c5, kl'.out, rfl, rfl⟩
/-- A string of bytes whose row stays: made late. -/
theorem late_strOf {st0 : Store} {M : List Nat} {x : MX} {e : Env} {st : Store} {K1 QP : PV → Store → Prop} {b off n cap : Nat} {T : TypeId} {cs : List PV} {bs : List UInt8} (hx : meval e x = .own b off n cap) (hb : b ∉ M) (hg : sget st0 b = some (.arr T cs)) (hl : off + n * 1 ≤ cs.length)
    (hbs : bytesOf? ((cs.drop off).take (n * 1)) = some bs) (h : K1 (.str ⟨bs.toArray⟩) st) : xone P (Cls st0 M) .late (.val (.strOf x)) e st K1 QP := by
  refine ⟨.str ⟨bs.toArray⟩, ?_, h⟩
  rw [if_pos (show usesStore (.strOf x) = true from rfl)]
  intro st' hst
  have h1 : srcCells 1 st' (.own b off n cap) = some ((cs.drop off).take (n * 1), n) := by
    simp only [srcCells, hst b hb _ hg, if_pos hl]
  simp only [mval, hx, h1, hbs]
theorem text_spec (t u : Bool) {r e j : Nat} {m k : List Nat} (c : PV) (d salt : List (BitVec 8)) (hd : d.length = 32) (hs : salt.length = 32) (h : Fit r e j m k (saltS salt)) (st : Store) :
    Rets P F.podiumlaw34_text [.agg (sealedRow r e j c d), natLst t m, natLst u k, .agg (byteRow salt)] st (byteLst false (comB r e j m k (saltS salt))) := by
  refine H.podiumlaw34_text.view hmix rfl rfl ?_
  have hdl : (byteRow d).length = 32 := by simp [hd]
  have htd : List.take 32 (byteRow d) = byteRow d := List.take_of_length_le (by omega)
  have hsl : (byteRow salt).length = 32 := by simp [hs]
  have hsub := sub_all hsl
  have htk : List.take 32 (byteRow salt) = byteRow salt := List.take_of_length_le (by omega)
  have hbo := bytesOf_row salt
  have hsS : (⟨(salt.map fun b => UInt8.ofNat b.toNat).toArray⟩ : ByteArray) = saltS salt := rfl
  have he := fun st => encodeW h st
  have t1 := fun st => text1_spec true [r, e, j] (by simp) (by simp) st
  have t2 := fun st => text1_spec t m h.m0 h.m1 st
  have t3 := fun st => text1_spec u k h.k0 h.k1 st
  have kh : Hid (Fit r e j m k (saltS salt)) := ⟨h⟩
  clear h
  generalize saltS salt = x at *
  generalize (salt.map fun b => UInt8.ofNat b.toNat) = bs at hbo hsS
  repeat' (first 
   | (with_reducible refine Fresh.intro fun b hb => ?_) <;> (try simp -dsimp -implicitDefEqProofs [*] at hb)
   | (with_reducible refine Lit.imm ?_)
   | (simp -dsimp -implicitDefEqProofs [-xappend_list, *]))
  revert b
  intro y hy
  revert b
  intro z hz hy
  refine xcall_post (t1 _) ?_
  rintro _ _ ⟨a1, ha1, hb1, hl1, rfl, rfl⟩
  rw [xend_ret]
  have k1 : Hid (a1.Ok wvRow 4 ∧ a1.l = [intW r, intW e, intW j]) := ⟨ha1, hl1⟩
  have kb1 : Hid (snew ((y, .arr T.apiDigest (byteRow salt)) :: (z, .arr T.apiSealed (sealedRow r e j c d)) :: st) a1.b) := ⟨hb1⟩
  obtain ⟨⟨c1, c2⟩, ⟨c3, c4⟩, c5⟩ := hb1
  clear ha1 hl1
  repeat' (first 
   | (with_reducible refine Fresh.intro fun b hb => ?_) <;> (try simp -dsimp -implicitDefEqProofs [*] at hb)
   | (simp -dsimp -implicitDefEqProofs [-xappend_list, *]))
  revert b
  intro v hv
  refine DrawLate.by (Cls ((v, .arr T.apiValue [.int 3, .int 0, noStr, .own a1.b 0 a1.l.length a1.cap]) :: (a1.b, .arr T.apiValue a1.R) :: (y, .arr T.apiDigest (byteRow salt)) :: (z, .arr T.apiSealed (sealedRow r e j c d)) :: st) [a1.b]) (Cls.self _ _) ?_
  repeat' (simp -dsimp -implicitDefEqProofs [-xappend_list, *])
  refine late_strOf (b := y) (off := 0) (n := 32) (cap := 32) (T := T.apiDigest) (cs := byteRow salt) rfl (by simp [*]) (by simp [*]) (by omega) (by rw [List.drop_zero, Nat.mul_one, htk]; exact hbo) ?_
  rw [hsS]
  repeat' (simp -dsimp -implicitDefEqProofs [-xappend_list, *])
  refine xcall_post (t2 _) ?_
  rintro _ _ ⟨a2, ha2, hb2, hl2, rfl, rfl⟩
  rw [xend_ret]
  have k2 : Hid (a2.Ok wvRow 4 ∧ a2.l = m.map intW) := ⟨ha2, hl2⟩
  have kb2 : Hid (snew ((v, .arr T.apiValue [.int 3, .int 0, noStr, .own a1.b 0 a1.l.length a1.cap]) :: (a1.b, .arr T.apiValue a1.R) :: (y, .arr T.apiDigest (byteRow salt)) :: (z, .arr T.apiSealed (sealedRow r e j c d)) :: st) a2.b) := ⟨hb2⟩
  obtain ⟨⟨d1, d2⟩, ⟨d3, d4⟩, ⟨d5, d6⟩, ⟨d7, d8⟩, d9⟩ := hb2
  clear ha2 hl2
  repeat' (first 
   | (with_reducible refine Cls_and ?_ ?_)
   | (with_reducible exact Cls.self _ _)
   | (with_reducible refine Cls_fresh ?_ ?_)
   | (simp -dsimp -implicitDefEqProofs [-xappend_list, *]))
  refine xcall_post (t3 _) ?_
  rintro _ _ ⟨a3, ha3, hb3, hl3, rfl, rfl⟩
  rw [xend_ret]
  have k3 : Hid (a3.Ok wvRow 4 ∧ a3.l = k.map intW) := ⟨ha3, hl3⟩
  have kb3 : Hid (snew ((a2.b, .arr T.apiValue a2.R) :: (v, .arr T.apiValue [.int 3, .int 0, noStr, .own a1.b 0 a1.l.length a1.cap]) :: (a1.b, .arr T.apiValue a1.R) :: (y, .arr T.apiDigest (byteRow salt)) :: (z, .arr T.apiSealed (sealedRow r e j c d)) :: st) a3.b) := ⟨hb3⟩
  obtain ⟨⟨e1, e2⟩, ⟨e3, e4⟩, ⟨e5, e6⟩, ⟨e7, e8⟩, ⟨e9, e10⟩, e11⟩ := hb3
  clear ha3 hl3
  repeat' (first 
   | (with_reducible refine Cls_and ?_ ?_)
   | (with_reducible exact Cls.self _ _)
   | (with_reducible refine Cls_fresh ?_ ?_)
   | (simp -dsimp -implicitDefEqProofs [-xappend_list, *]))
  refine xappend_row (cs := wvRow a1.l) a1.R (by simp [*]) k1.out.1.len k1.out.1.row k1.out.1.le k1.out.1.cap rfl (by rw [k1.out.2]; simp) fun lb' cap' R' h1 h2 h3 h4 h5 => ?_
  simp -dsimp -implicitDefEqProofs [*] at h1
  obtain ⟨⟨f1, f2⟩, ⟨f3, f4⟩, ⟨f5, f6⟩, ⟨f7, f8⟩, ⟨f9, f10⟩, f11⟩ := h1
  have k5 : Hid (R'.take ((a1.l.length + 3) * 4) = wvRow a1.l ++ [.int 3, .int 0, noStr, .own a2.b 0 a2.l.length a2.cap, .int 3, .int 0, noStr, .own a3.b 0 a3.l.length a3.cap, .int 2, .int 0, .str x, .nil]) := ⟨h5⟩
  clear h5 h4
  have n1 : snew ((a3.b, .arr T.apiValue a3.R) :: (a2.b, .arr T.apiValue a2.R) :: (v, .arr T.apiValue [.int 3, .int 0, noStr, .own a1.b 0 a1.l.length a1.cap]) :: (y, .arr T.apiDigest (byteRow salt)) :: (z, .arr T.apiSealed (sealedRow r e j c d)) :: st) lb' := ⟨⟨f1, f2⟩, ⟨f3, f4⟩, ⟨f5, f6⟩, ⟨f7, f8⟩, ⟨f9, f10⟩, f11⟩
  have n2 : snew ((a2.b, .arr T.apiValue a2.R) :: (v, .arr T.apiValue [.int 3, .int 0, noStr, .own a1.b 0 a1.l.length a1.cap]) :: (y, .arr T.apiDigest (byteRow salt)) :: (z, .arr T.apiSealed (sealedRow r e j c d)) :: st) a3.b := ⟨⟨e1, e2⟩, ⟨e3, e4⟩, ⟨e7, e8⟩, ⟨e9, e10⟩, e11⟩
  have n3 : snew ((v, .arr T.apiValue [.int 3, .int 0, noStr, .own a1.b 0 a1.l.length a1.cap]) :: (y, .arr T.apiDigest (byteRow salt)) :: (z, .arr T.apiSealed (sealedRow r e j c d)) :: st) a2.b := ⟨⟨d1, d2⟩, ⟨d5, d6⟩, ⟨d7, d8⟩, d9⟩
  have hsd : sdel a1.b ((a3.b, .arr T.apiValue a3.R) :: (a2.b, .arr T.apiValue a2.R) :: (v, .arr T.apiValue [.int 3, .int 0, noStr, .own a1.b 0 a1.l.length a1.cap]) :: (a1.b, .arr T.apiValue a1.R) :: (y, .arr T.apiDigest (byteRow salt)) :: (z, .arr T.apiSealed (sealedRow r e j c d)) :: st) = (a3.b, .arr T.apiValue a3.R) :: (a2.b, .arr T.apiValue a2.R) :: (v, .arr T.apiValue [.int 3, .int 0, noStr, .own a1.b 0 a1.l.length a1.cap]) :: (y, .arr T.apiDigest (byteRow salt)) :: (z, .arr T.apiSealed (sealedRow r e j c d)) :: st := by simp [*]
  rw [hsd]
  clear hsd
  refine ⟨Cls_fresh n1 (Cls_fresh n2 (Cls_fresh n3 (Cls_same (Cls_un (T := T.apiValue) (some a1))))), ?_⟩
  clear n1 n2 n3
  repeat' (simp -dsimp -implicitDefEqProofs [-xappend_list, *])
  have f1' : Frzs lb' (.arr T.apiValue R') [.agg [.int 3, .int 0, noStr, .own lb' 0 (a1.l.length + 3) cap']] [.agg [.int 3, .int 0, noStr, .list false ((R'.drop 0).take ((a1.l.length + 3) * 4)) (a1.l.length + 3)]] :=
    .cons (.agg (.cons (.refl _) (.cons (.refl _) (.cons (.refl _) (.cons (.own _ _ _ _ _ 4 rfl h2 h3) .nil))))) .nil
  rw [List.drop_zero, k5.out] at f1'
  have f2' : Frzs a3.b (.arr T.apiValue a3.R) [.agg [.int 3, .int 0, noStr, .list false (wvRow a1.l ++ [.int 3, .int 0, noStr, .own a2.b 0 a2.l.length a2.cap, .int 3, .int 0, noStr, .own a3.b 0 a3.l.length a3.cap, .int 2, .int 0, .str x, .nil]) (a1.l.length + 3)]] [.agg [.int 3, .int 0, noStr, .list false (wvRow a1.l ++ [.int 3, .int 0, noStr, .own a2.b 0 a2.l.length a2.cap, .int 3, .int 0, noStr, .list false (wvRow a3.l) a3.l.length, .int 2, .int 0, .str x, .nil]) (a1.l.length + 3)]] :=
    .cons (.agg (.cons (.refl _) (.cons (.refl _) (.cons (.refl _) (.cons (.list _ _ (Frzs.append (Frzs.refl _) (.cons (.refl _) (.cons (.refl _) (.cons (.refl _) (.cons (.refl _) (.cons (.refl _) (.cons (.refl _) (.cons (.refl _) (.cons (Frz.acc k3.out.1) (Frzs.refl _))))))))))) .nil))))) .nil
  have f3' : Frzs a2.b (.arr T.apiValue a2.R) [.agg [.int 3, .int 0, noStr, .list false (wvRow a1.l ++ [.int 3, .int 0, noStr, .own a2.b 0 a2.l.length a2.cap, .int 3, .int 0, noStr, .list false (wvRow a3.l) a3.l.length, .int 2, .int 0, .str x, .nil]) (a1.l.length + 3)]] [.agg [.int 3, .int 0, noStr, .list false (wvRow a1.l ++ [.int 3, .int 0, noStr, .list false (wvRow a2.l) a2.l.length, .int 3, .int 0, noStr, .list false (wvRow a3.l) a3.l.length, .int 2, .int 0, .str x, .nil]) (a1.l.length + 3)]] :=
    .cons (.agg (.cons (.refl _) (.cons (.refl _) (.cons (.refl _) (.cons (.list _ _ (Frzs.append (Frzs.refl _) (.cons (.refl _) (.cons (.refl _) (.cons (.refl _) (.cons (Frz.acc k2.out.1) (Frzs.refl _))))))) .nil))))) .nil
  have eq : (listW (parts r e j m k x)).row = [.int 3, .int 0, noStr, .list false (wvRow a1.l ++ [.int 3, .int 0, noStr, .list false (wvRow a2.l) a2.l.length, .int 3, .int 0, noStr, .list false (wvRow a3.l) a3.l.length, .int 2, .int 0, .str x, .nil]) (a1.l.length + 3)] := by
    rw [k1.out.2, k2.out.2, k3.out.2]; rfl
  have hEnc := he st
  rw [eq] at hEnc
  have hs1 : StLe ((lb', .arr T.apiValue R') :: (a3.b, .arr T.apiValue a3.R) :: (a2.b, .arr T.apiValue a2.R) :: st) ((lb', .arr T.apiValue R') :: (a3.b, .arr T.apiValue a3.R) :: (a2.b, .arr T.apiValue a2.R) :: (v, .arr T.apiValue [.int 3, .int 0, noStr, .own lb' 0 (a1.l.length + 3) cap']) :: (y, .arr T.apiDigest (byteRow salt)) :: (z, .arr T.apiSealed (sealedRow r e j c d)) :: st) := by
    clear f1' f2' f3' hEnc he eq k5 k1 k2 k3 t1 t2 t3
    exact (by repeat' (first | exact StLe.refl _ | (refine StLe_cons (by simp [*]; done) ?_) | (refine StLe_fresh (by simp [*]; done) ?_)))
  have n1 : snew ((a3.b, .arr T.apiValue a3.R) :: (a2.b, .arr T.apiValue a2.R) :: st) lb' := ⟨⟨f1, f2⟩, ⟨f3, f4⟩, f11⟩
  have n2 : snew ((a2.b, .arr T.apiValue a2.R) :: st) a3.b := ⟨⟨e1, e2⟩, e11⟩
  refine xcall_post (PCalls.frz n1 hs1 f1' (PCalls.frz n2 (.refl _) f2' (PCalls.frz d9 (.refl _) f3' hEnc))) ?_
  rintro _ _ ⟨rfl, rfl⟩
  rw [xend_ret]
  clear f1' f2' f3' hEnc he eq hs1 k5 k1 k2 k3 t1 t2 t3
  repeat' (simp -dsimp -implicitDefEqProofs [-xappend_list, *])
  exact .same ⟨rfl, rfl⟩
theorem textI (t u : Bool) {r e j : Int} {m k : List Int} (c : PV) (d salt : List (BitVec 8)) (hd : d.length = 32) (hs : salt.length = 32) (h : Right r e j m k) (st : Store) : Rets P F.podiumlaw34_text [cardV r e j c d, intLst t m, intLst u k, .agg (byteRow salt)] st (byteLst false (comI r e j m k salt)) := by
  have h9 := text_spec t u c d salt hd hs (h.fit hs) st
  have h2 := place_in h.hp
  rwa [natLst_to t fun n hn => (inAll_bound h.hm n hn).1, natLst_to u fun n hn => (inAll_bound h.hk n hn).1, sealedRow, Int.toNat_of_nonneg h2.1.1, Int.toNat_of_nonneg h2.2.1.1, Int.toNat_of_nonneg h2.2.2.1] at h9
end Go.Proofs.YtmgpkcpalpejcaaDoor
