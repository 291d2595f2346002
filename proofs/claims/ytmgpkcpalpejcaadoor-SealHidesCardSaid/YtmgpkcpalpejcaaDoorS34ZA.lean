/- The reference's bare, Strip, Open. -/
import Derived.Test.YtmgpkcpalpejcaaDoorS34Z
namespace Go.Proofs.YtmgpkcpalpejcaaDoor
open Go.Pv Go.Pv.Sha
set_option maxRecDepth 100000
set_option maxHeartbeats 4000000
theorem less_mod (x y : Int) (hx : 0 ≤ x) (hx2 : x ≤ 1073741788) (hy : 0 ≤ y) (hy2 : y ≤ 1073741788) : (x - y + 1073741789) % 1073741789 = less x y := by
  unfold less QI
  split <;> omega
theorem less_in (x y : Int) (hx : 0 ≤ x) (hx2 : x ≤ 1073741788) (hy : 0 ≤ y) (hy2 : y ≤ 1073741788) : 0 ≤ less x y ∧ less x y ≤ 1073741788 := by
  unfold less QI
  split <;> omega
theorem refBare_ok (t u : Bool) (r e j : Int) (c k : List Int) (hc : c.length ≤ 100000) (hk : k.length ≤ 100000) (d : List (BitVec 8)) (hd : d.length = 32) (h : bareOk r e j c k = true) (st : Store) :
    Rets P F.podiumref34_bare [cardV r e j (intLst t c) d, intLst u k] st (.tuple [intLst false (bareL c k), .int 0]) := by
  refine H.podiumref34_bare.view hmix rfl rfl ?_
  have hC := fun st => refCheckC r e j t c hc d st
  have hK := fun st => refKeys_spec u k hk st
  simp only [bareOk, Bool.and_eq_true, decide_eq_true_eq] at h
  obtain ⟨⟨h1, h2⟩, h3⟩ := h
  have h4 : inAll c 1073741788 = true := by
    unfold chk at h1
    simp only [Bool.and_eq_true] at h1
    exact h1.2
  have hcb := inAll_bound h4
  have hkb := inAll_bound h2
  have hcl := inAll_len h4
  rw [h1, if_pos rfl] at hC
  rw [h2] at hK
  have hdl : (byteRow d).length = 32 := by simp [hd]
  have htk : List.take 32 (byteRow d) = byteRow d := List.take_of_length_le (by omega)
  clear h1 h2 h4
  repeat' (first 
   | (with_reducible refine Fresh.intro fun b hb => ?_) <;> (try simp -dsimp -implicitDefEqProofs [*] at hb)
   | (with_reducible refine Rets.xcall (hC _) ?_)
   | (with_reducible refine Rets.xcall (hK _) ?_)
   | (simp -dsimp -implicitDefEqProofs [-xappend_list, *]))
  have hns := hb
  refine xloop_for (fun y : Nat × Option (Acc Int) => [(1, intLst u k), (2, .ptr b 0), (6, accP y.2), (7, .int (y.1 : Nat))]) (fun y => accS T.int ((b, .arr T.apiSealed (.int r :: .int e :: .int j :: intLst t c :: byteRow d)) :: st) y.2) (fun y => y.1 ≤ c.length ∧ accOk intRow 1 ((b, .arr T.apiSealed (.int r :: .int e :: .int j :: intLst t c :: byteRow d)) :: st) y.2 ∧ accL y.2 = (bareL c k).take y.1) (fun y => c.length - y.1) (0, none) ⟨by omega, trivial, rfl⟩ (by simp) (.refl _) ?_
  rintro ⟨i, o⟩ ⟨hi, ho, hol⟩
  simp only at hi ho hol
  have kl : Hid (accL o = (bareL c k).take i) := ⟨hol⟩
  clear hol
  by_cases hil : i < c.length
  · have hik : i < k.length := by omega
    have hg := intRow_get c i hil
    have hg2 := intRow_get k i hik
    have hwi := wrap_succ (n := i) (by omega)
    have hz : i < (bareL c k).length := by rw [bareL_len h3]; omega
    have kT : Hid ((bareL c k).take (i + 1) = (bareL c k).take i ++ [less c[i] k[i]]) := ⟨by rw [List.take_succ_eq_append_getElem hz]; simp [bareL]⟩
    have kn : Hid ((accL o).length ≤ 100000) := ⟨by rw [kl.out, List.length_take]; omega⟩
    have b1 := hcb _ (List.getElem_mem hil)
    have b2 := hkb _ (List.getElem_mem hik)
    have eL := less_mod c[i] k[i] b1.1 b1.2 b2.1 b2.2
    have bL := less_in c[i] k[i] b1.1 b1.2 b2.1 b2.2
    clear hcb hkb
    have w1 : IntKind.i64.wrap (c[i] - k[i]) = c[i] - k[i] := wrap_in (by omega) (by omega)
    have w2 : IntKind.i64.wrap (c[i] - k[i] + 1073741789) = c[i] - k[i] + 1073741789 := wrap_in (by omega) (by omega)
    have tm : (c[i] - k[i] + 1073741789).tmod 1073741789 = less c[i] k[i] := by rw [Int.tmod_eq_emod_of_nonneg (by omega)]; exact eL
    have w3 : IntKind.i64.wrap (less c[i] k[i]) = less c[i] k[i] := wrap_in (by omega) (by omega)
    clear b1 b2 eL bL
    have hgb := sget_acc (T := T.int) ho (b := b) (x := .arr T.apiSealed (.int r :: .int e :: .int j :: intLst t c :: byteRow d)) (by simp)
    repeat' (simp -dsimp -implicitDefEqProofs [-xappend_list, *])
    refine DrawLate.by (Cls (accS T.int ((b, .arr T.apiSealed (.int r :: .int e :: .int j :: intLst t c :: byteRow d)) :: st) o) (accB o)) (Cls.self _ _) ?_
    repeat' (simp -dsimp -implicitDefEqProofs [-xappend_list, *])
    refine xappend_accP0 intRow_len intRow_append o ho [less c[i] k[i]] rfl rfl (by have := kn.out; omega) fun o' ho' hl' => ?_
    have kl' : Hid (accL o' = (bareL c k).take (i + 1)) := ⟨by rw [hl', kl.out, kT.out]⟩
    clear hl' kl kT
    refine ⟨Cls.trans' (Cls_un o) (Cls_acc ho' (Cls.self _ _)), ?_⟩
    repeat' (simp -dsimp -implicitDefEqProofs [-xappend_list, *])
    exact Next.intro (i + 1, o') ⟨by simp only; omega, ho', kl'.out⟩ (by simp only; omega) (by simp) (by repeat' (first | exact StLe.refl _ | (refine StLe_cons (by simp [*]; done) ?_) | (refine StLe_fresh (by simp [*]; done) ?_)))
  · have e : i = c.length := by omega
    have kl' : Hid (accL o = bareL c k) := ⟨by rw [kl.out]; exact List.take_of_length_le (by rw [bareL_len h3]; omega)⟩
    subst e
    clear kl hcb hkb
    repeat' (simp -dsimp -implicitDefEqProofs [-xappend_list, *])
    exact RetView.accP2 rfl ho (.drop (.fresh hns) ⟨by rw [kl'.out], rfl⟩)
theorem comB_le {r e j : Nat} {m k : List Nat} {x : ByteArray} (h : Fit r e j m k x) : (comB r e j m k x).length ≤ 900000 := by
  have hB := flatB_len (parts r e j m k x) (parts_all (Q := fun v => v.B.length ≤ 2000) (by have := intW_len r h.hr; omega) (by have := intW_len e h.he; omega) (by have := intW_len j h.hj; omega) (intsW_len m h.m1 h.hm) (intsW_len k h.k1 h.hk) ((textW_ok 0 (by omega) _ h.hx .nil).B))
  have h2 := numE_len10 (n := (parts r e j m k x).length) (by simp [parts])
  show (3#8 :: (numE (parts r e j m k x).length ++ (parts r e j m k x).flatMap Wv.B)).length ≤ 900000
  rw [List.length_cons, List.length_append]
  simp only [parts, List.length_cons, List.length_nil] at hB h2 ⊢
  omega
theorem comI_len {r e j : Int} {m k : List Int} (h : Right r e j m k) {salt : List (BitVec 8)} (hs : salt.length = 32) : (comI r e j m k salt).length ≤ 900000 := comB_le (h.fit hs)
theorem refBare_no (t u : Bool) (r e j : Int) (c k : List Int) (hc : c.length ≤ 100000) (hk : k.length ≤ 100000) (d : List (BitVec 8)) (hd : d.length = 32) (h : bareOk r e j c k = false) (st : Store) :
    Rets P F.podiumref34_bare [cardV r e j (intLst t c) d, intLst u k] st (.tuple [.nil, .int 340]) := by
  refine H.podiumref34_bare.pure hmix rfl rfl ?_
  have hC := fun st => refCheckC r e j t c hc d st
  have hK := fun st => refKeys_spec u k hk st
  unfold bareOk at h
  have hdl : (byteRow d).length = 32 := by simp [hd]
  have htk : List.take 32 (byteRow d) = byteRow d := List.take_of_length_le (by omega)
  generalize chk r e j c = A at *
  generalize inAll k 1073741788 = B at *
  cases A
  · repeat' (first 
     | (with_reducible refine Fresh.intro fun b hb => ?_) <;> (try simp -dsimp -implicitDefEqProofs [*] at hb)
     | (with_reducible refine Rets.xcall (hC _) ?_)
     | (simp -dsimp -implicitDefEqProofs [*]))
  cases B
  · repeat' (first 
     | (with_reducible refine Fresh.intro fun b hb => ?_) <;> (try simp -dsimp -implicitDefEqProofs [*] at hb)
     | (with_reducible refine Rets.xcall (hC _) ?_)
     | (with_reducible refine Rets.xcall (hK _) ?_)
     | (simp -dsimp -implicitDefEqProofs [*]))
  · have h' : ¬ k.length = c.length := by simpa using h
    clear h
    have h8 : ¬ (k.length : Int) = (c.length : Int) := by omega
    repeat' (first 
     | (with_reducible refine Fresh.intro fun b hb => ?_) <;> (try simp -dsimp -implicitDefEqProofs [*] at hb)
     | (with_reducible refine Rets.xcall (hC _) ?_)
     | (with_reducible refine Rets.xcall (hK _) ?_)
     | (simp -dsimp -implicitDefEqProofs [*]))
theorem refStrip_spec (t u : Bool) (r e j : Int) (c k : List Int) (hc : c.length ≤ 100000) (hk : k.length ≤ 100000) (d : List (BitVec 8)) (hd : d.length = 32) (st : Store) :
    Rets P F.podiumref34_Strip [cardV r e j (intLst t c) d, intLst u k] st (.tuple [optL (stripR r e j c k), .int (errO (stripR r e j c k))]) := by
  refine H.podiumref34_Strip.pure hmix rfl rfl ?_
  have hB1 := fun (h : bareOk r e j c k = true) st => refBare_ok t u r e j c k hc hk d hd h st
  have hB2 := fun (h : bareOk r e j c k = false) st => refBare_no t u r e j c k hc hk d hd h st
  have hM := fun st => refMarks_spec false (bareL c k) (bareL_le hk) st
  have hdl : (byteRow d).length = 32 := by simp [hd]
  have htk : List.take 32 (byteRow d) = byteRow d := List.take_of_length_le (by omega)
  generalize hR : PV.tuple [optL (stripR r e j c k), .int (errO (stripR r e j c k))] = R
  unfold stripR at hR
  generalize bareOk r e j c k = A at *
  generalize bareL c k = M at *
  generalize inAll M 1000 = B at *
  cases A
  · have hB := hB2 rfl
    clear hB1 hB2
    have hR' : R = .tuple [.nil, .int 340] := hR.symm
    clear hR
    subst hR'
    repeat' (first 
     | (with_reducible refine Fresh.intro fun b hb => ?_) <;> (try simp -dsimp -implicitDefEqProofs [*] at hb)
     | (with_reducible refine Rets.xcall (hB _) ?_)
     | (simp -dsimp -implicitDefEqProofs [*]))
  have hB := hB1 rfl
  clear hB1 hB2
  cases B
  · have hR' : R = .tuple [.nil, .int 340] := hR.symm
    clear hR
    subst hR'
    repeat' (first 
     | (with_reducible refine Fresh.intro fun b hb => ?_) <;> (try simp -dsimp -implicitDefEqProofs [*] at hb)
     | (with_reducible refine Rets.xcall (hB _) ?_)
     | (with_reducible refine Rets.xcall (hM _) ?_)
     | (simp -dsimp -implicitDefEqProofs [*]))
  · have hR' : R = .tuple [intLst false M, .int 0] := hR.symm
    clear hR
    subst hR'
    repeat' (first 
     | (with_reducible refine Fresh.intro fun b hb => ?_) <;> (try simp -dsimp -implicitDefEqProofs [*] at hb)
     | (with_reducible refine Rets.xcall (hB _) ?_)
     | (with_reducible refine Rets.xcall (hM _) ?_)
     | (simp -dsimp -implicitDefEqProofs [*]))
theorem refOpen_spec (t u : Bool) (r e j : Int) (c k : List Int) (hc : c.length ≤ 100000) (hk : k.length ≤ 100000) (d salt : List (BitVec 8)) (hd : d.length = 32) (hs : salt.length = 32) (st : Store) :
    Rets P F.podiumref34_Open [cardV r e j (intLst t c) d, intLst u k, .agg (byteRow salt)] st (.tuple [optL (openR r e j c d k salt), .bool (openR r e j c d k salt).isSome, .int (if bareOk r e j c k then 0 else 340)]) := by
  refine H.podiumref34_Open.pure hmix rfl rfl ?_
  have hB1 := fun (h : bareOk r e j c k = true) st => refBare_ok t u r e j c k hc hk d hd h st
  have hB2 := fun (h : bareOk r e j c k = false) st => refBare_no t u r e j c k hc hk d hd h st
  have hM := fun st => refMarks_spec false (bareL c k) (bareL_le hk) st
  have hdl : (byteRow d).length = 32 := by simp [hd]
  have htk : List.take 32 (byteRow d) = byteRow d := List.take_of_length_le (by omega)
  have hsl : (byteRow salt).length = 32 := by simp [hs]
  have hts : List.take 32 (byteRow salt) = byteRow salt := List.take_of_length_le (by omega)
  have hC := fun (h2 : bareOk r e j c k = true) (h3 : inAll (bareL c k) 1000 = true) => (by
    simp only [bareOk, chk, Bool.and_eq_true] at h2
    exact ⟨h2.1.1.1, h3, h2.1.2⟩ : Right r e j (bareL c k) k)
  have hT := fun (h : Right r e j (bareL c k) k) st => refTextI false u salt hs h st
  have hG : ∀ (h : Right r e j (bareL c k) k) st, Rets P F.podiumref02_Tagged [.val (.string ⟨#[99, 97, 114, 100]⟩), byteLst false (comI r e j (bareL c k) k salt)] st (.agg (byteRow (digI r e j (bareL c k) k salt))) := fun h st => refTagged_spec cardTag (by decide) false (comI r e j (bareL c k) k salt) (comI_len h hs) st
  have hQ := eqCells32 (digI r e j (bareL c k) k salt) d rfl hd
  generalize hR : PV.tuple [optL (openR r e j c d k salt), .bool (openR r e j c d k salt).isSome, .int (if bareOk r e j c k then 0 else 340)] = R
  unfold openR at hR
  generalize digI r e j (bareL c k) k salt = D at *
  generalize comI r e j (bareL c k) k salt = B0 at *
  generalize bareOk r e j c k = A at *
  generalize bareL c k = M at *
  generalize inAll M 1000 = B at *
  cases A
  · have hB := hB2 rfl
    clear hB1 hB2 hC hT hG
    have hR' : R = .tuple [.nil, .bool false, .int 340] := hR.symm
    clear hR
    subst hR'
    repeat' (first 
     | (with_reducible refine Fresh.intro fun b hb => ?_) <;> (try simp -dsimp -implicitDefEqProofs [*] at hb)
     | (with_reducible refine Rets.xcall (hB _) ?_)
     | (simp -dsimp -implicitDefEqProofs [*]))
  have hB := hB1 rfl
  clear hB1 hB2
  cases B
  · clear hC hT hG
    have hR' : R = .tuple [.nil, .bool false, .int 0] := hR.symm
    clear hR
    subst hR'
    repeat' (first 
     | (with_reducible refine Fresh.intro fun b hb => ?_) <;> (try simp -dsimp -implicitDefEqProofs [*] at hb)
     | (with_reducible refine Rets.xcall (hB _) ?_)
     | (with_reducible refine Rets.xcall (hM _) ?_)
     | (with_reducible refine DrawLate.intro [] ?_)
     | (simp -dsimp -implicitDefEqProofs [*]))
  · have hC1 := hC rfl rfl
    have hT1 := hT hC1
    have hG1 := hG hC1
    clear hC hT hG
    simp only [Bool.true_and, if_true] at hR
    have hsub := sub_all hsl
    repeat' (first 
     | (with_reducible refine Fresh.intro fun b hb => ?_) <;> (try simp -dsimp -implicitDefEqProofs [*] at hb)
     | (with_reducible refine Rets.xcall (hB _) ?_)
     | (with_reducible refine Rets.xcall (hM _) ?_)
     | (with_reducible refine Rets.xcall (hT1 _) ?_)
     | (with_reducible refine Rets.xcall (hG1 _) ?_)
     | (with_reducible refine DrawLate.intro [] ?_)
     | (with_reducible refine And.intro (fun h => ?_) (fun h => ?_)) <;> (try (exfalso; omega))
     | (simp -dsimp -implicitDefEqProofs [*]))
    all_goals (rw [← hR]; simp [*, optL])
end Go.Proofs.YtmgpkcpalpejcaaDoor
