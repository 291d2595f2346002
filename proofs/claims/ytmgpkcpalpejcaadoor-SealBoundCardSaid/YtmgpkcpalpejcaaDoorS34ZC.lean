/- The reference's Make, and equal cards. -/
import Derived.Test.YtmgpkcpalpejcaaDoorS34ZA
namespace Go.Proofs.YtmgpkcpalpejcaaDoor
open Go.Pv Go.Pv.Sha
set_option maxRecDepth 100000
set_option maxHeartbeats 4000000
theorem refMake_no (t u : Bool) (r e j : Int) (m k : List Int) (hml : m.length ≤ 100000) (hkl : k.length ≤ 100000) (salt : List (BitVec 8)) (h : mkOk r e j m k = false) (st : Store) :
    Rets P F.podiumref34_Make [.int r, .int e, .int j, intLst t m, intLst u k, .agg (byteRow salt)] st (.tuple [.agg zeroCard, .int 340]) := by
  refine H.podiumref34_Make.pure hmix rfl rfl ?_
  have hp := fun st => refPlace_spec r e j st
  have hmM := fun st => refMarks_spec t m hml st
  have hkK := fun st => refKeys_spec u k hkl st
  unfold mkOk at h
  generalize placeOk r e j = A at *
  generalize inAll m 1000 = B at *
  generalize inAll k 1073741788 = C at *
  cases A
  · repeat' (first 
     | (with_reducible refine Fresh.intro fun b hb => ?_) <;> (try simp -dsimp -implicitDefEqProofs [*] at hb)
     | (with_reducible refine Rets.xcall (hp _) ?_)
     | (simp -dsimp -implicitDefEqProofs [*]))
  cases B
  · repeat' (first 
     | (with_reducible refine Fresh.intro fun b hb => ?_) <;> (try simp -dsimp -implicitDefEqProofs [*] at hb)
     | (with_reducible refine Rets.xcall (hp _) ?_)
     | (with_reducible refine Rets.xcall (hmM _) ?_)
     | (simp -dsimp -implicitDefEqProofs [*]))
  cases C
  · repeat' (first 
     | (with_reducible refine Fresh.intro fun b hb => ?_) <;> (try simp -dsimp -implicitDefEqProofs [*] at hb)
     | (with_reducible refine Rets.xcall (hp _) ?_)
     | (with_reducible refine Rets.xcall (hmM _) ?_)
     | (with_reducible refine Rets.xcall (hkK _) ?_)
     | (simp -dsimp -implicitDefEqProofs [*]))
  · have h' : ¬ m.length = k.length := by simpa using h
    clear h
    have h8 : ¬ (m.length : Int) = (k.length : Int) := by omega
    repeat' (first 
     | (with_reducible refine Fresh.intro fun b hb => ?_) <;> (try simp -dsimp -implicitDefEqProofs [*] at hb)
     | (with_reducible refine Rets.xcall (hp _) ?_)
     | (with_reducible refine Rets.xcall (hmM _) ?_)
     | (with_reducible refine Rets.xcall (hkK _) ?_)
     | (simp -dsimp -implicitDefEqProofs [*]))
abbrev zz : List PV := [.val (.int .u8 0), .val (.int .u8 0), .val (.int .u8 0), .val (.int .u8 0), .val (.int .u8 0), .val (.int .u8 0), .val (.int .u8 0), .val (.int .u8 0), .val (.int .u8 0), .val (.int .u8 0), .val (.int .u8 0), .val (.int .u8 0), .val (.int .u8 0), .val (.int .u8 0), .val (.int .u8 0), .val (.int .u8 0), .val (.int .u8 0), .val (.int .u8 0), .val (.int .u8 0), .val (.int .u8 0), .val (.int .u8 0), .val (.int .u8 0), .val (.int .u8 0), .val (.int .u8 0), .val (.int .u8 0), .val (.int .u8 0), .val (.int .u8 0), .val (.int .u8 0), .val (.int .u8 0), .val (.int .u8 0), .val (.int .u8 0), .val (.int .u8 0)]
theorem RetView.lower {c : PV → PEnd} {p : PV} {st st' : Store} {Q : PEnd → Store → Prop} (hle : StLe st' st) (h : RetView c p st' Q) : RetView c p st Q := by
  obtain ⟨p', st'', h1, h2⟩ := h
  exact ⟨p', st'', (Sees.drop hle).trans h1, h2⟩
theorem refMake_ok (t u : Bool) {r e j : Int} {m k : List Int} (salt : List (BitVec 8)) (hs : salt.length = 32) (h : mkOk r e j m k = true) (st : Store) :
    Rets P F.podiumref34_Make [.int r, .int e, .int j, intLst t m, intLst u k, .agg (byteRow salt)] st (.tuple [cardV r e j (intLst false (cipher m k)) (digI r e j m k salt), .int 0]) := by
  refine H.podiumref34_Make.view hmix rfl rfl ?_
  simp only [mkOk, Bool.and_eq_true, decide_eq_true_eq] at h
  obtain ⟨⟨⟨a1, a2⟩, a3⟩, a4⟩ := h
  have hr : Right r e j m k := ⟨a1, a2, a3⟩
  have lm := inAll_len a2
  have hmb := inAll_bound a2
  have hkb := inAll_bound a3
  have hp := fun st => refPlace_spec r e j st
  have hmM := fun st => refMarks_spec t m (by omega) st
  have hkK := fun st => refKeys_spec u k (by omega) st
  rw [a1] at hp
  rw [a2] at hmM
  rw [a3] at hkK
  have hT := fun st => refTextI t u salt hs hr st
  have hG : ∀ st, Rets P F.podiumref02_Tagged [.val (.string ⟨#[99, 97, 114, 100]⟩), byteLst false (comI r e j m k salt)] st (.agg (byteRow (digI r e j m k salt))) := fun st => refTagged_spec cardTag (by decide) false (comI r e j m k salt) (comI_len hr hs) st
  have hD := digI_len r e j m k salt
  generalize digI r e j m k salt = D at *
  generalize comI r e j m k salt = B0 at *
  have hsl : (byteRow salt).length = 32 := by simp [hs]
  have hts : List.take 32 (byteRow salt) = byteRow salt := List.take_of_length_le (by omega)
  have hsub := sub_all hsl
  have hDl : (byteRow D).length = 32 := by simp [hD]
  have hDt : List.take 32 (byteRow D) = byteRow D := List.take_of_length_le (by omega)
  have hcl : (cipher m k).length = m.length := by simp [cipher, a4]
  clear a1 a2 a3 hr
  repeat' (first 
   | (with_reducible refine Fresh.intro fun b hb => ?_) <;> (try simp -dsimp -implicitDefEqProofs [*] at hb)
   | (with_reducible refine Rets.xcall (hp _) ?_)
   | (with_reducible refine Rets.xcall (hmM _) ?_)
   | (with_reducible refine Rets.xcall (hkK _) ?_)
   | (simp -dsimp -implicitDefEqProofs [-xappend_list, *]))
  revert b
  intro y hy
  revert b
  intro z hz hy
  revert b
  intro p hp hz hy
  have hst1 : StLe st ((z, .arr T.apiSealed zeroCard) :: (p, .arr T.apiDigest (byteRow salt)) :: st) := (by repeat' (first | exact StLe.refl _ | (refine StLe_cons (by simp [*]; done) ?_) | (refine StLe_fresh (by simp [*]; done) ?_)))
  have hyn : snew ((z, .arr T.apiSealed zeroCard) :: (p, .arr T.apiDigest (byteRow salt)) :: st) y := ⟨hy.1, hy.2.1, hy.2.2⟩
  refine xloop_for (fun s : Nat × Option (Acc Int) => [(0, .int r), (1, .int e), (2, .int j), (3, intLst t m), (4, intLst u k), (11, .ptr p 0), (12, .ptr z 0), (14, .ptr y 0), (15, .int (s.1 : Nat))]) (fun s => (y, .arr T.apiSealed (.int r :: .int e :: .int j :: accP s.2 :: zz)) :: accS T.int ((z, .arr T.apiSealed zeroCard) :: (p, .arr T.apiDigest (byteRow salt)) :: st) s.2) (fun s => s.1 ≤ m.length ∧ accOk intRow 1 ((z, .arr T.apiSealed zeroCard) :: (p, .arr T.apiDigest (byteRow salt)) :: st) s.2 ∧ snew (accS T.int ((z, .arr T.apiSealed zeroCard) :: (p, .arr T.apiDigest (byteRow salt)) :: st) s.2) y ∧ accL s.2 = (cipher m k).take s.1) (fun s => m.length - s.1) (0, none) ⟨by omega, trivial, hyn, rfl⟩ (by simp) (.refl _) ?_
  rintro ⟨i, o⟩ ⟨hi, ho, hyo, hol⟩
  simp only at hi ho hyo hol
  have kl : Hid (accL o = (cipher m k).take i) := ⟨hol⟩
  clear hol
  by_cases hil : i < m.length
  · have hik : i < k.length := by omega
    have hg := intRow_get m i hil
    have hg2 := intRow_get k i hik
    have hwi := wrap_succ (n := i) (by omega)
    have hz2 : i < (cipher m k).length := by omega
    have kT : Hid ((cipher m k).take (i + 1) = (cipher m k).take i ++ [(m[i] + k[i]) % QI]) := ⟨by rw [List.take_succ_eq_append_getElem hz2]; simp [cipher]⟩
    have kn : Hid ((accL o).length ≤ 100000) := ⟨by rw [kl.out, List.length_take]; omega⟩
    have b1 := hmb _ (List.getElem_mem hil)
    have b2 := hkb _ (List.getElem_mem hik)
    clear hmb hkb
    have w1 : IntKind.i64.wrap (m[i] + k[i]) = m[i] + k[i] := wrap_in (by omega) (by omega)
    have tm : (m[i] + k[i]).tmod 1073741789 = (m[i] + k[i]) % QI := by rw [Int.tmod_eq_emod_of_nonneg (by omega)]
    have w3 : IntKind.i64.wrap ((m[i] + k[i]) % QI) = (m[i] + k[i]) % QI := wrap_in (by have := Int.emod_nonneg (m[i] + k[i]) (show QI ≠ 0 by decide); omega) (by have := Int.emod_lt_of_pos (m[i] + k[i]) (show 0 < QI by decide); unfold QI at *; omega)
    clear b1 b2
    repeat' (simp -dsimp -implicitDefEqProofs [-xappend_list, *])
    refine DrawLate.by (Cls ((y, .arr T.apiSealed (.int r :: .int e :: .int j :: accP o :: zz)) :: accS T.int ((z, .arr T.apiSealed zeroCard) :: (p, .arr T.apiDigest (byteRow salt)) :: st) o) (accB o)) (Cls.self _ _) ?_
    repeat' (simp -dsimp -implicitDefEqProofs [-xappend_list, *])
    refine xappend_box intRow_len intRow_append o ho hyo [(m[i] + k[i]) % QI] rfl rfl (by omega) (by have := kn.out; omega) fun o' ho' hl' => ?_
    have kl' : Hid (accL o' = (cipher m k).take (i + 1)) := ⟨by rw [hl', kl.out, kT.out]⟩
    clear hl' kl kT kn
    refine ⟨Cls_acc ho' (Cls_box o), ?_⟩
    cases o' with
    | none => exact absurd (congrArg List.length kl'.out) (by simp; omega)
    | some a =>
      simp only [accP_some, accS_some, accOk_some, accL_some] at ho' kl' ⊢
      obtain ⟨ha, hab⟩ := ho'
      have hns := (accB_new hyo).2
      clear hyo ho
      obtain ⟨⟨hab1, hab2⟩, ⟨c1, c2⟩, ⟨c3, c4⟩, c5⟩ := hab
      repeat' (simp -dsimp -implicitDefEqProofs [-xappend_list, *])
      exact Next.intro (i + 1, some a) ⟨by simp only; omega, ⟨ha, ⟨c1, c2⟩, ⟨c3, c4⟩, c5⟩, ⟨⟨hab2, hab1⟩, hns⟩, kl'.out⟩ (by simp only; omega) (by simp) (by repeat' (first | exact StLe.refl _ | (refine StLe_cons (by simp [*]; done) ?_) | (refine StLe_fresh (by simp [*]; done) ?_)))
  · have e : i = m.length := by omega
    have kl' : Hid (accL o = cipher m k) := ⟨by rw [kl.out]; exact List.take_of_length_le (by omega)⟩
    subst e
    clear kl hmb hkb
    cases o with
    | none => exact absurd (congrArg List.length kl'.out) (by simp; omega)
    | some a =>
      simp only [accP_some, accS_some, accOk_some, accL_some] at ho kl' hyo ⊢
      obtain ⟨ha, ⟨c1, c2⟩, ⟨c3, c4⟩, c5⟩ := ho
      obtain ⟨⟨d1, d2⟩, ⟨d3, d4⟩, ⟨d5, d6⟩, d7⟩ := hyo
      have hall : ∀ a b c d (L : List PV), L.length = 32 → setCells (a :: b :: c :: d :: L) 4 (byteRow D) = a :: b :: c :: d :: byteRow D := fun a b c d L h => by
        have h9 := setCells_append_right (byteRow D) [a, b, c, d] L 0
        rw [setCells_all _ _ (hDl.trans h.symm)] at h9
        exact h9
      have hdub : ∀ a b c d : PV, sub (a :: b :: c :: d :: byteRow D) 0 36 = some (a :: b :: c :: d :: byteRow D) := fun a b c d => sub_all (by simp only [List.length_cons, hDl])
      have hzz : zz.length = 32 := rfl
      have hset : ∀ a b c d : PV, setCells zeroCard 0 (a :: b :: c :: d :: byteRow D) = a :: b :: c :: d :: byteRow D := fun a b c d => setCells_all _ _ (by simp only [List.length_cons, hDl, List.length_nil])
      repeat' (first 
       | (with_reducible refine Rets.xcall (hT _) ?_)
       | (with_reducible refine Rets.xcall (hG _) ?_)
       | (simp -dsimp -implicitDefEqProofs [-xappend_list, *]))
      have hle : StLe ((a.b, .arr T.int a.R) :: st) ((y, .arr T.apiSealed (.int r :: .int e :: .int j :: .own a.b 0 a.l.length a.cap :: byteRow D)) :: (a.b, .arr T.int a.R) :: (z, .arr T.apiSealed (.int r :: .int e :: .int j :: .own a.b 0 a.l.length a.cap :: byteRow D)) :: (p, .arr T.apiDigest (byteRow salt)) :: st) := (by repeat' (first | exact StLe.refl _ | (refine StLe_cons (by simp [*]; done) ?_) | (refine StLe_fresh (by simp [*]; done) ?_)))
      refine RetView.lower hle (RetView.freeze _ c5 (.tuple (.cons (.agg (.cons (.refl _) (.cons (.refl _) (.cons (.refl _) (.cons (Frz.acc ha) (Frzs.refl _)))))) (.cons (.refl _) .nil))) (.same ⟨?_, rfl⟩))
      rw [kl'.out]
theorem same_spec (r e j : Int) (c : PV) (d : List (BitVec 8)) (hd : d.length = 32) (r' e' j' : Int) (c' : PV) (d' : List (BitVec 8)) (hd' : d'.length = 32) (l l' : List Int) (hS : ∀ st, Rets P F.podiumref34_SameInts [c, c'] st (.bool (decide (l = l')))) (st : Store) :
    Rets P F.podiumref34_Same [cardV r e j c d, cardV r' e' j' c' d'] st (.bool (decide (r = r') && decide (e = e') && decide (j = j') && decide (l = l') && decide (d = d'))) := by
  refine H.podiumref34_Same.pure hmix rfl rfl ?_
  have hdl : (byteRow d).length = 32 := by simp [hd]
  have htk : List.take 32 (byteRow d) = byteRow d := List.take_of_length_le (by omega)
  have hdl' : (byteRow d').length = 32 := by simp [hd']
  have htk' : List.take 32 (byteRow d') = byteRow d' := List.take_of_length_le (by omega)
  have hQ := eqCells32 d d' hd hd'
  by_cases h1 : r = r'
  · by_cases h2 : e = e'
    · by_cases h3 : j = j'
      · by_cases h4 : l = l'
        · repeat' (first 
           | (with_reducible refine Fresh.intro fun b hb => ?_) <;> (try simp -dsimp -implicitDefEqProofs [*] at hb)
           | (with_reducible refine Rets.xcall (hS _) ?_)
           | (simp -dsimp -implicitDefEqProofs [*]))
        · repeat' (first 
           | (with_reducible refine Fresh.intro fun b hb => ?_) <;> (try simp -dsimp -implicitDefEqProofs [*] at hb)
           | (with_reducible refine Rets.xcall (hS _) ?_)
           | (simp -dsimp -implicitDefEqProofs [*]))
      · repeat' (first 
         | (with_reducible refine Fresh.intro fun b hb => ?_) <;> (try simp -dsimp -implicitDefEqProofs [*] at hb)
         | (simp -dsimp -implicitDefEqProofs [*]))
    · repeat' (first 
       | (with_reducible refine Fresh.intro fun b hb => ?_) <;> (try simp -dsimp -implicitDefEqProofs [*] at hb)
       | (simp -dsimp -implicitDefEqProofs [*]))
  · repeat' (first 
     | (with_reducible refine Fresh.intro fun b hb => ?_) <;> (try simp -dsimp -implicitDefEqProofs [*] at hb)
     | (simp -dsimp -implicitDefEqProofs [*]))
end Go.Proofs.YtmgpkcpalpejcaaDoor
