/- Shares of a polynomial in a row of one's own; SealHides, up to the loop over the shares. -/
import Derived.Test.YtmgpkcpalpejcaaDoorS34ZO
namespace Go.Proofs.YtmgpkcpalpejcaaDoor
open Go.Pv Go.Pv.Sha Go.Pv.Ip
set_option maxRecDepth 100000
set_option maxHeartbeats 4000000
theorem deal_own (secret : Int) (hs : 0 ≤ secret ∧ secret < Qi) {b0 off cap0 : Nat} {T0 : TypeId} {cs : List PV} (more : List Int) (n : Nat) (h1 : 1 ≤ n) (h2 : n ≤ 24) (hm : more.length < n) (st : Store)
    (hg : sget st b0 = some (.arr T0 cs)) (hcl : off + more.length ≤ cs.length) (hr : (cs.drop off).take more.length = intRow more) :
    Rets P F.shares_Deal [.int secret, .own b0 off more.length cap0, .int (n : Int)] st (.tuple [Share.lst false (sharesL (secret :: more) n), .int 0]) := by
  refine H.shares_Deal.view hmix rfl rfl ?_
  have n1 : ¬ secret < 0 := by omega
  have n2 : ¬ 1073741789 ≤ secret := by unfold Qi at hs; omega
  have n3 : ¬ (n : Int) < 1 := by omega
  have n4 : ¬ (24 : Int) < n := by omega
  have n5 : ¬ (n : Int) ≤ more.length := by omega
  have hv := fun (q : Bool) => values1_gives q (secret :: more) (by simp; omega) n h2
  have hl : (sharesL (secret :: more) n).length ≤ 1024 := by rw [sharesL_len]; omega
  cases more with
  | nil =>
    have vf : ∀ st, Rets P F.shares_values [.list true [.int secret] 1, .int (n : Int)] st (.func (.func F.shares_values_1) [] [.iptr [.int (n : Int)] 0, .iptr [intLst true [secret]] 0]) := fun st => valuesF_spec true [secret] n st
    have hv1 := hv true
    simp only [List.length_nil, Nat.add_zero] at hcl
    clear hv
    repeat' (first 
     | (with_reducible refine Rets.xcall (vf _) ?_)
     | (with_reducible refine Rets.xcall (collect_spec H.shares_values_1.enters hv1 hl _) ?_)
     | (with_reducible refine Lit.imm ?_)
     | (with_reducible refine And.intro (fun h => ?_) (fun h => ?_)) <;> (try (exfalso; omega))
     | (simp -dsimp -implicitDefEqProofs [*]))
    all_goals exact .same ⟨rfl, rfl⟩
  | cons m0 more =>
    have hv1 := hv false
    have n6 : ¬ (n : Int) ≤ (more.length : Int) + 1 := by simp only [List.length_cons] at hm; omega
    simp only [List.length_cons] at hcl hr
    clear hv n5
    repeat' (first 
     | (with_reducible refine Lit.imm ?_)
     | ((with_reducible refine Grow.intro ?_ fun b cap hb hc1 hc2 => ?_); omega) <;> (try simp -dsimp -implicitDefEqProofs [*] at hb)
     | (simp -dsimp -implicitDefEqProofs [*]))
    have e0 : ((PV.int secret :: (intRow (m0 :: more) ++ List.replicate (cap - (1 + (more.length + 1))) .any)).drop 0).take ((1 + (more.length + 1)) * 1) = intRow (secret :: m0 :: more) := by
      rw [List.drop_zero, Nat.mul_one, Nat.add_comm 1, List.take_succ_cons, List.take_left' (by simp [intRow])]
      rfl
    have e1 : Frzs b (.arr T.int (.int secret :: (intRow (m0 :: more) ++ List.replicate (cap - (1 + (more.length + 1))) .any))) [.own b 0 (1 + (more.length + 1)) cap, .int (n : Int)] [.list false (((PV.int secret :: (intRow (m0 :: more) ++ List.replicate (cap - (1 + (more.length + 1))) .any)).drop 0).take ((1 + (more.length + 1)) * 1)) (1 + (more.length + 1)), .int (n : Int)] :=
      .cons (.own _ _ _ _ _ 1 rfl hc1 hc2) (Frzs.refl _)
    rw [e0, Nat.add_comm 1 (more.length + 1)] at e1
    rw [Nat.add_comm 1 (more.length + 1)]
    refine xcall_post (PCalls.frz hb (.refl _) e1 (valuesF_spec false (secret :: m0 :: more) n st)) ?_
    rintro _ _ ⟨rfl, rfl⟩
    rw [xend_ret]
    clear e0 e1
    repeat' (first 
     | (with_reducible refine Rets.xcall (collect_spec H.shares_values_1.enters hv1 hl _) ?_)
     | (simp -dsimp -implicitDefEqProofs [*]))
    exact .same ⟨rfl, rfl⟩
theorem hides_law (a5 : Int) (h5 : 0 ≤ a5 ∧ a5 ≤ 255) (ta tb tc td te : Bool) (m k o : List Int) (salt : List (BitVec 8)) (hs : salt.length = 32) (mo : List (List Int)) (hmo : ∀ l ∈ mo, l.length ≤ 1000000000000000) (kn : List Bool) (st : Store) (h0 : sget st 0 = some (.arr T.t8uint32 Sha.start.row)) (h1 : sget st 1 = some numsO) :
    Rets P F.podiumlaw34_SealHides [intLst ta m, intLst tb k, intLst tc o, .agg (byteRow salt), .list td (mo.map fun l => intLst false l) mo.length, .val (.int .u8 a5), .list te (kn.map PV.bool) kn.length] st (.bool true) := by
  refine H.podiumlaw34_SealHides.sound fun hsnd => ?_
  have hml := hsnd.list_le (t := ta) (cs := intRow m) (n := m.length) (by simp)
  have hkl := hsnd.list_le (t := tb) (cs := intRow k) (n := k.length) (by simp)
  have hol := hsnd.list_le (t := tc) (cs := intRow o) (n := o.length) (by simp)
  clear hsnd
  refine H.podiumlaw34_SealHides.pure hmix rfl rfl ?_
  have hN := snew_globs h0 h1
  have hsane := fun st h0 h1 => sane_spec st h0 h1
  have hF := fun st => few_spec ta tb m k hml hkl st
  have hM := fun st => refMarks_big tc o hol st
  have hsl : (byteRow salt).length = 32 := by simp [hs]
  have hts : List.take 32 (byteRow salt) = byteRow salt := List.take_of_length_le (by omega)
  have hsub := sub_all hsl
  cases hf : fewB m k
  · rw [hf] at hF
    clear hM
    repeat' (first 
     | (with_reducible refine Fresh.intro fun b hb => ?_) <;> (try simp -dsimp -implicitDefEqProofs [*] at hb)
     | (with_reducible refine Rets.xcall (hsane _ (by simp [*]) (by simp [*])) ?_)
     | (with_reducible refine Rets.xcall (hF _) ?_)
     | (simp -dsimp -implicitDefEqProofs [*]))
  rw [hf] at hF
  cases hmk : inAll o 1000
  · rw [hmk] at hM
    repeat' (first 
     | (with_reducible refine Fresh.intro fun b hb => ?_) <;> (try simp -dsimp -implicitDefEqProofs [*] at hb)
     | (with_reducible refine Rets.xcall (hsane _ (by simp [*]) (by simp [*])) ?_)
     | (with_reducible refine Rets.xcall (hF _) ?_)
     | (with_reducible refine Rets.xcall (hM _) ?_)
     | (simp -dsimp -implicitDefEqProofs [*]))
  rw [hmk] at hM
  by_cases c1 : o.length = m.length
  rotate_left
  · have c1' : ¬ (o.length : Int) = m.length := by omega
    repeat' (first 
     | (with_reducible refine Fresh.intro fun b hb => ?_) <;> (try simp -dsimp -implicitDefEqProofs [*] at hb)
     | (with_reducible refine Rets.xcall (hsane _ (by simp [*]) (by simp [*])) ?_)
     | (with_reducible refine Rets.xcall (hF _) ?_)
     | (with_reducible refine Rets.xcall (hM _) ?_)
     | (simp -dsimp -implicitDefEqProofs [*]))
  by_cases c2 : 4 < m.length
  · have c1' : (o.length : Int) = m.length := by omega
    have c2' : (4 : Int) < m.length := by omega
    clear c1
    repeat' (first 
     | (with_reducible refine Fresh.intro fun b hb => ?_) <;> (try simp -dsimp -implicitDefEqProofs [*] at hb)
     | (with_reducible refine Rets.xcall (hsane _ (by simp [*]) (by simp [*])) ?_)
     | (with_reducible refine Rets.xcall (hF _) ?_)
     | (with_reducible refine Rets.xcall (hM _) ?_)
     | (simp -dsimp -implicitDefEqProofs [*]))
  by_cases c3 : mo.length = m.length
  rotate_left
  · have c1' : (o.length : Int) = m.length := by omega
    have c2' : ¬ (4 : Int) < m.length := by omega
    have c3' : ¬ (mo.length : Int) = m.length := by omega
    clear c1 c2 c3
    repeat' (first 
     | (with_reducible refine Fresh.intro fun b hb => ?_) <;> (try simp -dsimp -implicitDefEqProofs [*] at hb)
     | (with_reducible refine Rets.xcall (hsane _ (by simp [*]) (by simp [*])) ?_)
     | (with_reducible refine Rets.xcall (hF _) ?_)
     | (with_reducible refine Rets.xcall (hM _) ?_)
     | (simp -dsimp -implicitDefEqProofs [*]))
  by_cases c4 : 6 < kn.length
  · have c1' : (o.length : Int) = m.length := by omega
    have c2' : ¬ (4 : Int) < m.length := by omega
    have c3' : (mo.length : Int) = m.length := by omega
    have c4' : (6 : Int) < kn.length := by omega
    clear c1 c2 c3 c4
    repeat' (first 
     | (with_reducible refine Fresh.intro fun b hb => ?_) <;> (try simp -dsimp -implicitDefEqProofs [*] at hb)
     | (with_reducible refine Rets.xcall (hsane _ (by simp [*]) (by simp [*])) ?_)
     | (with_reducible refine Rets.xcall (hF _) ?_)
     | (with_reducible refine Rets.xcall (hM _) ?_)
     | (simp -dsimp -implicitDefEqProofs [*]))
  have c1' : (o.length : Int) = m.length := by omega
  have c2' : ¬ (4 : Int) < m.length := by omega
  have c3' : (mo.length : Int) = m.length := by omega
  have c4' : ¬ (6 : Int) < kn.length := by omega
  have hp0 : placeOk 0 0 0 = true := by decide
  have H0 := back_facts (salt := salt) hp0 hf
  obtain ⟨f1, -, -, -, -⟩ := H0
  have hci := cipher_in hf
  have hf' := hf
  simp only [fewB, Bool.and_eq_true, decide_eq_true_eq] at hf'
  obtain ⟨⟨g1, g2⟩, g3⟩ := hf'
  have lm := inAll_len g1
  have hkb := inAll_bound g2
  have hcl : (cipher m k).length = m.length := by simp [cipher, g3]
  have hM1 := fun st h0 h1 => makeI_ok (r := 0) (e := 0) (j := 0) ta tb salt hs f1 st h0 h1
  have hcb := inAll_bound hci
  have hob := inAll_bound hmk
  obtain ⟨ci, hcid⟩ : ∃ ci, cipher m k = ci := ⟨_, rfl⟩
  rw [hcid] at hcl hM1 hcb hci
  have hcol : ci.length = o.length := by omega
  have hCL := cipher_less hcol hcb hob
  have hBI := bareL_in hcol (by omega) (by omega) hcb hob
  have hSl : (bareL ci o).length = ci.length := by simp [bareL, hcol]
  have hSb := inAll_bound hBI
  have f2 : mkOk 0 0 0 o (bareL ci o) = true := by simp [mkOk, hp0, hmk, hBI, hSl, hcol]
  have hM2 := fun st h0 h1 => makeI_ok (r := 0) (e := 0) (j := 0) tc false salt hs f2 st h0 h1
  rw [hCL] at hM2
  have hE : ∀ st, Rets P F.podiumref34_SameInts [intLst false ci, intLst false ci] st (.bool true) := fun st => by
    have := sameInts_spec false false ci ci (by omega) (by omega) st
    rwa [decide_eq_true rfl] at this
  have hSW0 : ∀ L, bareL ci o = L → ∀ i (h : i < L.length) (h1 : i < ci.length) (h2 : i < o.length), L[i] = less ci[i] o[i] := fun L e i h h1 h2 => by subst e; simp [bareL]
  have hDl : (byteRow (digI 0 0 0 m k salt)).length = 32 := rfl
  have hDl2 : (byteRow (digI 0 0 0 o (bareL ci o) salt)).length = 32 := rfl
  obtain ⟨D, hD⟩ : ∃ D, digI 0 0 0 m k salt = D := ⟨_, rfl⟩
  obtain ⟨D2, hD2⟩ : ∃ D2, digI 0 0 0 o (bareL ci o) salt = D2 := ⟨_, rfl⟩
  rw [hD] at hM1 hDl
  rw [hD2] at hM2 hDl2
  obtain ⟨SW, hSWd⟩ : ∃ SW, bareL ci o = SW := ⟨_, rfl⟩
  rw [hSWd] at hM2 hSl hSb
  have hSW := hSW0 SW hSWd
  clear hSW0
  have hDt : List.take 32 (byteRow D) = byteRow D := List.take_of_length_le (by omega)
  have hDt2 : List.take 32 (byteRow D2) = byteRow D2 := List.take_of_length_le (by omega)
  have hall : ∀ x y z w (L : List PV), L.length = 32 → setCells (x :: y :: z :: w :: L) 4 (byteRow D) = x :: y :: z :: w :: byteRow D := fun x y z w L h => by
    have h9 := setCells_append_right (byteRow D) [x, y, z, w] L 0
    rw [setCells_all _ _ (hDl.trans h.symm)] at h9
    exact h9
  have hall2 : ∀ x y z w (L : List PV), L.length = 32 → setCells (x :: y :: z :: w :: L) 4 (byteRow D2) = x :: y :: z :: w :: byteRow D2 := fun x y z w L h => by
    have h9 := setCells_append_right (byteRow D2) [x, y, z, w] L 0
    rw [setCells_all _ _ (hDl2.trans h.symm)] at h9
    exact h9
  have cil : (ci.length : Int) = m.length := by omega
  have kg3 : Hid (m.length = k.length) := ⟨g3⟩
  have khcl : Hid (ci.length = m.length) := ⟨hcl⟩
  have khSl : Hid (SW.length = ci.length) := ⟨hSl⟩
  have khcol : Hid (ci.length = o.length) := ⟨hcol⟩
  clear hf hmk f1 f2 hci hBI hCL g1 g2 hcid hD hD2 hSWd hp0 c1 c3 g3 hcl hSl hcol
  repeat' (first 
   | (with_reducible refine Fresh.intro fun b hb => ?_) <;> (try simp -dsimp -implicitDefEqProofs [*] at hb)
   | (with_reducible refine Rets.xcall (hsane _ (by simp [*]) (by simp [*])) ?_)
   | (with_reducible refine Rets.xcall (hF _) ?_)
   | (with_reducible refine Rets.xcall (hM _) ?_)
   | (with_reducible refine Rets.xcall (hM1 _ (by simp [*]) (by simp [*])) ?_)
   | (simp -dsimp -implicitDefEqProofs [*]))
  revert b
  intro y hy
  revert b
  intro z hz hy
  have hst1 : Hid (StLe st ((y, .arr T.apiSealed (.int 0 :: .int 0 :: .int 0 :: intLst false ci :: byteRow D)) :: (z, .arr T.apiDigest (byteRow salt)) :: st)) := ⟨(by repeat' (first | exact StLe.refl _ | (refine StLe_cons (by simp [*]; done) ?_) | (refine StLe_fresh (by simp [*]; done) ?_)))⟩
  have hbl : ∀ (i : Nat) (h : i < ci.length) (h2 : i < o.length), IntKind.i64.wrap (ci[i] - o[i]) = ci[i] - o[i] ∧ IntKind.i64.wrap (ci[i] - o[i] + 1073741789) = ci[i] - o[i] + 1073741789 ∧ (ci[i] - o[i] + 1073741789).tmod 1073741789 = less ci[i] o[i] ∧ IntKind.i64.wrap (less ci[i] o[i]) = less ci[i] o[i] := fun i h h2 => by
    have b1 := hcb _ (List.getElem_mem h)
    have b2 := hob _ (List.getElem_mem h2)
    have b3 := less_in _ _ b1.1 b1.2 b2.1 (by omega)
    refine ⟨wrap_in (by omega) (by omega), wrap_in (by omega) (by omega), ?_, wrap_in (by omega) (by omega)⟩
    rw [Int.tmod_eq_emod_of_nonneg (by omega)]
    exact less_mod _ _ b1.1 b1.2 b2.1 (by omega)
  have kfin : Hid (∀ x : Nat × Option (Acc Int), (x.1 ≤ ci.length ∧ accOk intRow 1 ((y, .arr T.apiSealed (.int 0 :: .int 0 :: .int 0 :: intLst false ci :: byteRow D)) :: (z, .arr T.apiDigest (byteRow salt)) :: st) x.2 ∧ accL x.2 = SW.take x.1) → x.1 = ci.length → View ⟨[(1, intLst tb k), (2, intLst tc o), (4, .list td (mo.map fun l => intLst false l) mo.length), (5, .val (.int .u8 a5)), (6, .list te (kn.map PV.bool) kn.length), (10, .ptr z 0), (15, .int m.length), (16, .ptr y 0), (18, accP x.2), (88, .int ci.length), (89, .int (x.1 : Nat))], accS T.int ((y, .arr T.apiSealed (.int 0 :: .int 0 :: .int 0 :: intLst false ci :: byteRow D)) :: (z, .arr T.apiDigest (byteRow salt)) :: st) x.2⟩ ⟨[(1, intLst tb k), (2, intLst tc o), (4, .list td (mo.map fun l => intLst false l) mo.length), (5, .val (.int .u8 a5)), (6, .list te (kn.map PV.bool) kn.length), (10, .ptr z 0), (15, .int m.length), (16, .ptr y 0), (18, intLst false SW), (88, .int ci.length), (89, .int (x.1 : Nat))], (y, .arr T.apiSealed (.int 0 :: .int 0 :: .int 0 :: intLst false ci :: byteRow D)) :: (z, .arr T.apiDigest (byteRow salt)) :: st⟩) := ⟨by
    rintro ⟨i, a⟩ ⟨hi, ha, hal⟩ hf
    simp only at hi ha hal hf
    have k1 := khSl.out
    rw [hf, List.take_of_length_le (by omega)] at hal
    refine View.acc rfl ha (.refl _) fun q hq => ?_
    simp only [List.mem_cons, List.not_mem_nil, or_false] at hq
    rcases hq with rfl | rfl | rfl | rfl | rfl | rfl | rfl | rfl | rfl | rfl | rfl <;> simp [hal]⟩
  refine xloop_fz (fun y' : Nat × Option (Acc Int) => [(1, intLst tb k), (2, intLst tc o), (4, .list td (mo.map fun l => intLst false l) mo.length), (5, .val (.int .u8 a5)), (6, .list te (kn.map PV.bool) kn.length), (10, .ptr z 0), (15, .int m.length), (16, .ptr y 0), (18, accP y'.2), (88, .int ci.length), (89, .int (y'.1 : Nat))]) (fun y' => accS T.int ((y, .arr T.apiSealed (.int 0 :: .int 0 :: .int 0 :: intLst false ci :: byteRow D)) :: (z, .arr T.apiDigest (byteRow salt)) :: st) y'.2) (fun y' => y'.1 ≤ ci.length ∧ accOk intRow 1 ((y, .arr T.apiSealed (.int 0 :: .int 0 :: .int 0 :: intLst false ci :: byteRow D)) :: (z, .arr T.apiDigest (byteRow salt)) :: st) y'.2 ∧ accL y'.2 = SW.take y'.1) (fun y' => ci.length - y'.1) (fun y' => y'.1 = ci.length)
    (fun y' => [(1, intLst tb k), (2, intLst tc o), (4, .list td (mo.map fun l => intLst false l) mo.length), (5, .val (.int .u8 a5)), (6, .list te (kn.map PV.bool) kn.length), (10, .ptr z 0), (15, .int m.length), (16, .ptr y 0), (18, intLst false SW), (88, .int ci.length), (89, .int (y'.1 : Nat))]) (fun _ => (y, .arr T.apiSealed (.int 0 :: .int 0 :: .int 0 :: intLst false ci :: byteRow D)) :: (z, .arr T.apiDigest (byteRow salt)) :: st) kfin.out (0, none) ⟨Nat.zero_le _, trivial, rfl⟩ (by simp [cil]) (.refl _) ?_ ?_
  rotate_left
  · rintro ⟨i, a⟩ ⟨hi, ha, hal⟩ hnf
    simp only at hi ha hal hnf
    have kl : Hid (accL a = SW.take i) := ⟨hal⟩
    have hil : i < ci.length := by omega
    have hil2 : i < o.length := by have := khcol.out; omega
    have k1 := khSl.out
    have hg := intRow_get ci i hil
    have hg2 := intRow_get o i hil2
    have hwi := wrap_succ (n := i) (by omega)
    have kT : Hid (SW.take (i + 1) = SW.take i ++ [less ci[i] o[i]]) := ⟨by rw [List.take_succ_eq_append_getElem (by omega), hSW i (by omega) hil hil2]⟩
    have kn' : Hid ((accL a).length ≤ 100000) := ⟨by rw [hal, List.length_take]; omega⟩
    have H1 := hbl i hil hil2
    obtain ⟨w1, w2, w3, w4⟩ := H1
    have hgb := sget_acc (T := T.int) ha (b := y) (x := .arr T.apiSealed (.int 0 :: .int 0 :: .int 0 :: intLst false ci :: byteRow D)) (by simp)
    have hcil : (i : Int) < ci.length := by omega
    clear hal hbl hcb hob hSW hkb hnf
    repeat' (first 
     | (with_reducible refine And.intro (fun h => ?_) (fun h => ?_)) <;> (try (exfalso; omega))
     | (simp -dsimp -implicitDefEqProofs [-xappend_list, *]))
    refine DrawLate.by (Cls (accS T.int ((y, .arr T.apiSealed (.int 0 :: .int 0 :: .int 0 :: intLst false ci :: byteRow D)) :: (z, .arr T.apiDigest (byteRow salt)) :: st) a) (accB a)) (Cls.self _ _) ?_
    repeat' (simp -dsimp -implicitDefEqProofs [-xappend_list, *])
    refine xappend_accP0 intRow_len intRow_append a ha [less ci[i] o[i]] rfl rfl (by have := kn'.out; omega) fun a' ha' hl' => ?_
    have kl' : Hid (accL a' = SW.take (i + 1)) := ⟨by rw [hl', kl.out, kT.out]⟩
    clear hl' kl kT
    refine ⟨Cls.trans' (Cls_un a) (Cls_acc ha' (Cls.self _ _)), ?_⟩
    repeat' (simp -dsimp -implicitDefEqProofs [-xappend_list, *])
    exact NextF.intro kfin.out (i + 1, a') ⟨by simp only; omega, ha', kl'.out⟩ (by simp only; omega) (by simp [cil]) (by repeat' (first | exact StLe.refl _ | (refine StLe_cons (by simp [*]; done) ?_) | (refine StLe_fresh (by simp [*]; done) ?_)))
  · rintro ⟨i, a⟩ ⟨hi, ha, hal⟩ hf
    simp only at hi ha hal hf
    clear ha hal kfin hbl hcb hob
    subst hf
    repeat' (first 
     | (with_reducible refine Fresh.intro fun b hb => ?_) <;> (try simp -dsimp -implicitDefEqProofs [*] at hb)
     | (with_reducible refine Rets.xcall (hM2 _ (by simp [*]) (by simp [*])) ?_)
     | (with_reducible refine Rets.xcall (hE _) ?_)
     | (simp -dsimp -implicitDefEqProofs [*]))
    revert b
    intro w hw
    have kSb : Hid (∀ n ∈ SW, 0 ≤ n ∧ n ≤ 1073741788) := ⟨hSb⟩
    have kkb : Hid (∀ n ∈ k, 0 ≤ n ∧ n ≤ 1073741788) := ⟨hkb⟩
    have kmo : Hid (∀ l ∈ mo, l.length ≤ 1000000000000000) := ⟨hmo⟩
    clear hSb hkb hmo hSW hM1 hM2 hE hall hall2 hDt hDt2 hDl hDl2 hF hM hsane hml hkl hol
    refine xloop_for (fun i : Nat => [(1, intLst tb k), (4, .list td (mo.map fun l => intLst false l) mo.length), (5, .val (.int .u8 a5)), (6, .list te (kn.map PV.bool) kn.length), (18, intLst false SW), (125, .list td (mo.map fun l => intLst false l) mo.length), (126, .int m.length), (127, .int (i : Nat))])
      (fun _ => (w, .arr T.apiSealed (.int 0 :: .int 0 :: .int 0 :: intLst false ci :: byteRow D2)) :: (y, .arr T.apiSealed (.int 0 :: .int 0 :: .int 0 :: intLst false ci :: byteRow D)) :: (z, .arr T.apiDigest (byteRow salt)) :: st) (fun i => i ≤ m.length) (fun i => m.length - i) 0 (by omega) (by simp) (.refl _) ?_
    intro i hi
    by_cases hil : i < m.length
    · have him : i < mo.length := by omega
      have hik : i < k.length := by have := kg3.out; omega
      have his : i < SW.length := by have := khSl.out; have := khcl.out; omega
      have hwi := wrap_succ (n := i) (by omega)
      have hgm : (mo.map fun l => intLst false l)[i]? = some (intLst false mo[i]) := by simp [him]
      have hgk := intRow_get k i hik
      have hgs := intRow_get SW i his
      have bsec := kkb.out _ (List.getElem_mem hik)
      have bsw := kSb.out _ (List.getElem_mem his)
      have hlc := kmo.out _ (List.getElem_mem him)
      have hEm : ∀ h : i < (mo.map fun l => intLst false l).length, (mo.map fun l => intLst false l)[i]'h = intLst false mo[i] := fun h => by simp
      have hEk : ∀ h : i < (intRow k).length, (intRow k)[i]'h = .int k[i] := fun h => by simp
      have hEs : ∀ h : i < (intRow SW).length, (intRow SW)[i]'h = .int SW[i] := fun h => by simp
      have hml2 : (mo.map fun l => intLst false l).length = m.length := by simp; omega
      have him2 : (i : Int) < m.length := by omega
      generalize hMR : (mo.map fun l => intLst false l) = MR at *
      generalize mo[i] = c at *
      generalize k[i] = sec at *
      generalize SW[i] = sw at *
      clear hMR kSb kkb kmo
      have ea : a5.tmod 6 = a5 % 6 := Int.tmod_eq_emod_of_nonneg h5.1
      have wa : IntKind.i64.wrap a5 = a5 := wrap_in (by omega) (by omega)
      have w6 : IntKind.i64.wrap (a5 % 6) = a5 % 6 := wrap_in (by omega) (by omega)
      obtain ⟨nn, hnn, hn1, hn6⟩ : ∃ nn : Nat, 1 + a5 % 6 = (nn : Int) ∧ 1 ≤ nn ∧ nn ≤ 6 := ⟨(1 + a5 % 6).toNat, by omega, by omega, by omega⟩
      have wnn : IntKind.i64.wrap (nn : Int) = nn := wrap_in (by omega) (by omega)
      have hwc := wrap_succ (n := c.length) (by omega)
      generalize hS3 : (w, PObj.arr T.apiSealed (.int 0 :: .int 0 :: .int 0 :: intLst false ci :: byteRow D2)) :: (y, PObj.arr T.apiSealed (.int 0 :: .int 0 :: .int 0 :: intLst false ci :: byteRow D)) :: (z, PObj.arr T.apiDigest (byteRow salt)) :: st = S3
      clear hS3 hw hy hz hst1 hN h0 h1
      by_cases d1 : 4 < c.length + 1
      · have d1' : (4 : Int) < (c.length : Int) + 1 := by omega
        repeat' (simp -dsimp -implicitDefEqProofs [*])
        exact Next.intro (i + 1) (by omega) (by omega) (by simp) (.refl _)
      have d1' : ¬ (4 : Int) < (c.length : Int) + 1 := by omega
      by_cases d2 : nn < c.length + 1
      · have d2' : (nn : Int) < (c.length : Int) + 1 := by omega
        repeat' (simp -dsimp -implicitDefEqProofs [*])
        exact Next.intro (i + 1) (by omega) (by omega) (by simp) (.refl _)
      have d2' : ¬ (nn : Int) < (c.length : Int) + 1 := by omega
      have hd1 := fun st => deal_spec sec ⟨bsec.1, by unfold Qi; omega⟩ false c nn hn1 (by omega) (by omega) st
      have hLl := sharesL_len (sec :: c) nn
      have hLg := fun (q : Nat) (h : q < nn) => sharesL_get (sec :: c) nn q h
      obtain ⟨val, hval⟩ : ∃ val : Nat → Int, ∀ j : Nat, ev (sec :: c) ((j : Int) + 1) % Qi = val j := ⟨fun j => ev (sec :: c) ((j : Int) + 1) % Qi, fun _ => rfl⟩
      have hvin : ∀ j, 0 ≤ val j ∧ val j < Qi := fun j => by rw [← hval]; exact mod_in _
      simp only [hval] at hLg
      obtain ⟨L, hL⟩ : ∃ L, sharesL (sec :: c) nn = L := ⟨_, rfl⟩
      have hLg2 : ∀ q (h : q < nn) (h2 : q < L.length), L[q] = ⟨(q : Int) + 1, val q⟩ := fun q h h2 => by
        have := hLg q h
        simp only [hL] at this
        exact this
      rw [hL] at hd1 hLl
      clear hLg hL
      have hLli : (L.length : Int) = nn := by omega
      have kU := Hid.mk (ptsU_ok sw val kn (c.length + 1) (by omega) nn)
      repeat' (first 
       | (with_reducible refine Rets.xcall (hd1 _) ?_)
       | (with_reducible refine Lit.own (len := 1) fun b hb => ?_) <;> (try simp -dsimp -implicitDefEqProofs [*] at hb)
       | (simp -dsimp -implicitDefEqProofs [*]))
      revert b
      intro pb hpb
      have kfin2 : Hid (∀ x : Nat × Acc Point, (x.1 ≤ nn ∧ x.2.Ok Point.row 2 ∧ snew S3 x.2.b ∧ x.2.l = ptsU sw val kn (c.length + 1) x.1) → x.1 = nn → View ⟨[(1, intLst tb k), (4, .list td MR mo.length), (5, .val (.int .u8 a5)), (6, .list te (kn.map PV.bool) kn.length), (18, intLst false SW), (125, .list td MR mo.length), (126, .int m.length), (127, .int (i : Nat)), (22, .int (i : Nat)), (23, intLst false c), (24, .int ((c.length : Int) + 1)), (25, .int (nn : Int)), (26, Share.lst false L), (28, .own x.2.b 0 x.2.l.length x.2.cap), (170, Share.lst false L), (171, .int (nn : Int)), (172, .int (x.1 : Nat))], (x.2.b, .arr T.apiPoint x.2.R) :: S3⟩ ⟨[(1, intLst tb k), (4, .list td MR mo.length), (5, .val (.int .u8 a5)), (6, .list te (kn.map PV.bool) kn.length), (18, intLst false SW), (125, .list td MR mo.length), (126, .int m.length), (127, .int (i : Nat)), (22, .int (i : Nat)), (23, intLst false c), (24, .int ((c.length : Int) + 1)), (25, .int (nn : Int)), (26, Share.lst false L), (28, Point.lst false (ptsU sw val kn (c.length + 1) nn)), (170, Share.lst false L), (171, .int (nn : Int)), (172, .int (x.1 : Nat))], S3⟩) := ⟨by
        rintro ⟨q, a⟩ ⟨hq, ha, hb, hal⟩ hf
        simp only at hq ha hb hal hf
        subst hf
        refine View.frz hb (.refl _) fun e he => ?_
        simp only [List.mem_cons, List.not_mem_nil, or_false] at he
        rcases he with rfl | rfl | rfl | rfl | rfl | rfl | rfl | rfl | rfl | rfl | rfl | rfl | rfl | rfl | rfl | rfl | rfl
        all_goals first
          | (rw [← hal]; exact (show Frz a.b (.arr T.apiPoint a.R) (.own a.b 0 a.l.length a.cap) (Point.lst false a.l) from Frz.acc ha))
          | exact Frz.of_eq (by simp)⟩
      refine xloop_fz (fun x : Nat × Acc Point => [(1, intLst tb k), (4, .list td MR mo.length), (5, .val (.int .u8 a5)), (6, .list te (kn.map PV.bool) kn.length), (18, intLst false SW), (125, .list td MR mo.length), (126, .int m.length), (127, .int (i : Nat)), (22, .int (i : Nat)), (23, intLst false c), (24, .int ((c.length : Int) + 1)), (25, .int (nn : Int)), (26, Share.lst false L), (28, .own x.2.b 0 x.2.l.length x.2.cap), (170, Share.lst false L), (171, .int (nn : Int)), (172, .int (x.1 : Nat))]) (fun x => (x.2.b, .arr T.apiPoint x.2.R) :: S3) (fun x => x.1 ≤ nn ∧ x.2.Ok Point.row 2 ∧ snew S3 x.2.b ∧ x.2.l = ptsU sw val kn (c.length + 1) x.1) (fun x => nn - x.1) (fun x => x.1 = nn) (fun x => [(1, intLst tb k), (4, .list td MR mo.length), (5, .val (.int .u8 a5)), (6, .list te (kn.map PV.bool) kn.length), (18, intLst false SW), (125, .list td MR mo.length), (126, .int m.length), (127, .int (i : Nat)), (22, .int (i : Nat)), (23, intLst false c), (24, .int ((c.length : Int) + 1)), (25, .int (nn : Int)), (26, Share.lst false L), (28, Point.lst false (ptsU sw val kn (c.length + 1) nn)), (170, Share.lst false L), (171, .int (nn : Int)), (172, .int (x.1 : Nat))]) (fun _ => S3) kfin2.out (0, ⟨[⟨0, sw⟩], pb, 1, [.int 0, .int sw]⟩) ⟨Nat.zero_le _, ⟨by simp, by simp, by simp, rfl⟩, hpb, rfl⟩ (by simp) (.refl _) ?_ ?_
      rotate_left
      · rintro ⟨q, a⟩ ⟨hq, ha, hab, hal⟩ hnf
        simp only at hq ha hab hal hnf
        have hqn : q < nn := by omega
        have hqi : (q : Int) < nn := by omega
        have hqL : q < L.length := by omega
        have hLq := hLg2 q hqn hqL
        have hv := hvin q
        have hwq := wrap_succ (n := q) (by omega)
        have kstep : Hid (ptsU sw val kn (c.length + 1) (q + 1) = if kn.getD q false && decide ((ptsU sw val kn (c.length + 1) q).length < c.length + 1) then ptsU sw val kn (c.length + 1) q ++ [⟨(q : Int) + 1, val q⟩] else ptsU sw val kn (c.length + 1) q) := ⟨by rw [ptsU]⟩
        have kU' := (ptsU_ok sw val kn (c.length + 1) (by omega) q).len
        have kal : Hid (a.l = ptsU sw val kn (c.length + 1) q) := ⟨hal⟩
        have hall : a.l.length ≤ c.length + 1 := by rw [hal]; exact kU'
        have v1 : ¬ val q < 0 := by omega
        have v2 : ¬ 1073741789 ≤ val q := by unfold Qi at hv; omega
        clear hLg2 hvin hal kU' hd1
        by_cases e1 : q < kn.length
        · have e1' : (q : Int) < kn.length := by omega
          have hgn : kn.getD q false = kn[q] := by simp [List.getD_eq_getElem?_getD, e1]
          cases hkq : kn[q]
          · repeat' (first 
             | (with_reducible refine Fresh.intro fun b hb => ?_) <;> (try simp -dsimp -implicitDefEqProofs [*] at hb)
             | (simp -dsimp -implicitDefEqProofs [*]))
            exact NextF.intro kfin2.out (q + 1, a) ⟨by simp only; omega, ha, hab, by simp only; rw [kstep.out, if_neg (by rw [hgn, hkq]; simp)]; exact kal.out⟩ (by simp only; omega) (by simp) (by repeat' (first | exact StLe.refl _ | (refine StLe_cons (by simp [*]; done) ?_) | (refine StLe_fresh (by simp [*]; done) ?_)))
          · by_cases e3 : a.l.length < c.length + 1
            · have e3' : (a.l.length : Int) < (c.length : Int) + 1 := by omega
              repeat' (first 
               | (with_reducible refine Fresh.intro fun b hb => ?_) <;> (try simp -dsimp -implicitDefEqProofs [*] at hb)
               | (with_reducible refine Lit.imm ?_)
               | (simp -dsimp -implicitDefEqProofs [*]))
              refine xappend_acc Point.row_len Point.row_append ha (by simp [*]) [⟨(q : Int) + 1, val q⟩] (by simp [Point.enc]) rfl (by omega) fun a' ha' hl' hb' => ?_
              have hsd : sdel a.b S3 = S3 := sdel_of_new hab
              simp -dsimp -implicitDefEqProofs [*] at hb'
              have kal' : Hid (a'.l = ptsU sw val kn (c.length + 1) (q + 1)) := ⟨by rw [hl', kstep.out, if_pos (by rw [hgn, hkq, ← kal.out, decide_eq_true e3]; rfl), kal.out]⟩
              clear hl' ha hab
              repeat' (simp -dsimp -implicitDefEqProofs [*])
              exact NextF.intro kfin2.out (q + 1, a') ⟨by simp only; omega, ha', hb'.2, kal'.out⟩ (by simp only; omega) (by simp) (by repeat' (first | exact StLe.refl _ | (refine StLe_cons (by simp [*]; done) ?_) | (refine StLe_fresh (by simp [*]; done) ?_)))
            · have e3' : ¬ (a.l.length : Int) < (c.length : Int) + 1 := by omega
              repeat' (first 
               | (with_reducible refine Fresh.intro fun b hb => ?_) <;> (try simp -dsimp -implicitDefEqProofs [*] at hb)
               | (simp -dsimp -implicitDefEqProofs [*]))
              exact NextF.intro kfin2.out (q + 1, a) ⟨by simp only; omega, ha, hab, by simp only; rw [kstep.out, if_neg (by rw [hgn, hkq, ← kal.out, decide_eq_false e3]; decide)]; exact kal.out⟩ (by simp only; omega) (by simp) (by repeat' (first | exact StLe.refl _ | (refine StLe_cons (by simp [*]; done) ?_) | (refine StLe_fresh (by simp [*]; done) ?_)))
        · have e1' : ¬ (q : Int) < kn.length := by omega
          have hgn : kn.getD q false = false := by simp [List.getD_eq_getElem?_getD, List.getElem?_eq_none (Nat.le_of_not_lt e1)]
          repeat' (first 
           | (with_reducible refine Fresh.intro fun b hb => ?_) <;> (try simp -dsimp -implicitDefEqProofs [*] at hb)
           | (simp -dsimp -implicitDefEqProofs [*]))
          exact NextF.intro kfin2.out (q + 1, a) ⟨by simp only; omega, ha, hab, by simp only; rw [kstep.out, if_neg (by rw [hgn]; simp)]; exact kal.out⟩ (by simp only; omega) (by simp) (by repeat' (first | exact StLe.refl _ | (refine StLe_cons (by simp [*]; done) ?_) | (refine StLe_fresh (by simp [*]; done) ?_)))
      · rintro ⟨q, a⟩ ⟨hq, ha, hb, hal⟩ hf
        simp only at hq ha hb hal hf
        subst hf
        clear ha hb hal kfin2 hd1
        obtain ⟨pts, hpts⟩ : ∃ pts, ptsU sw val kn (c.length + 1) q = pts := ⟨_, rfl⟩
        rw [hpts] at kU ⊢
        clear hpts
        have gK := kU.out.good hn6 ⟨bsw.1, by unfold Qi; omega⟩ (fun j _ => hvin j)
        have tsp := fun st => through_spec false pts gK (by have := kU.out.len; omega) st
        have pF := poly_first kU.out gK ⟨bsw.1, by unfold Qi; omega⟩ (c.length + 1 - pts.length)
        have kE0 : ∀ TH', Ip.through (ptsL pts) = TH' → ∀ (Z j : Nat) (hj : j < pts.length), ev (TH' ++ List.replicate Z 0) pts[j].X % Qi = pts[j].Y := fun TH' e Z j hj => by subst e; exact thr_ev gK Z hj
        have tl := thr_len pts
        obtain ⟨TH, hTH⟩ : ∃ TH, Ip.through (ptsL pts) = TH := ⟨_, rfl⟩
        have kE := Hid.mk (kE0 TH hTH)
        rw [hTH] at pF tl
        simp only [hTH] at tsp
        clear kE0 gK hTH
        have plen := kU.out.len
        have ppos := kU.out.pos
        repeat' (simp -dsimp -implicitDefEqProofs [*])
        refine xcall_post (tsp _) ?_
        rintro _ _ ⟨tb', htb, rfl, rfl⟩
        rw [xend_ret]
        have ktl : Hid (TH.length = pts.length) := ⟨tl⟩
        obtain ⟨Z, hZ⟩ : ∃ Z, c.length + 1 - pts.length = Z := ⟨_, rfl⟩
        rw [hZ] at pF
        have hZi : (c.length : Int) + 1 - pts.length = (Z : Int) := by omega
        have wZ : IntKind.i64.wrap (Z : Int) = Z := wrap_in (by omega) (by omega)
        clear tsp tl
        repeat' (first 
         | ((with_reducible refine and_keep ?_ fun hk => ?_); omega)
         | (simp -dsimp -implicitDefEqProofs [-xappend_list, *]))
        refine xappend_accP0 (T := T.int) intRow_len intRow_append (some ⟨TH, tb', TH.length, intRow TH⟩) ⟨⟨Nat.le_refl _, by have := ktl.out; simp only; omega, by simp, by simp [List.take_of_length_le]⟩, htb⟩ (List.replicate Z 0) (intRow_zeros Z).symm (by simp) (by have := ktl.out; simp only [accL_some]; omega) fun o' ho' hl' => ?_
        obtain ⟨tlp, hp1, hp2⟩ := pF
        simp only [accL_some] at hl'
        rw [hp1] at hl'
        have kE2 : Hid (∀ (j : Nat) (hj : j < pts.length), ev (sw :: tlp) pts[j].X % Qi = pts[j].Y) := ⟨fun j hj => by rw [← hp1]; exact kE.out Z j hj⟩
        clear kE hp1
        cases o' with
        | none => simp at hl'
        | some a' =>
        simp only [accP_some, accS_some, accOk_some, accL_some] at ho' hl' ⊢
        obtain ⟨⟨o1, o2, o3, o4⟩, hab'⟩ := ho'
        rw [hl'] at o1 o4
        simp only [List.length_cons, Nat.mul_one] at o1 o3 o4
        have hlen' : a'.l.length = tlp.length + 1 := by rw [hl']; rfl
        have r2 : (a'.R.drop 1).take tlp.length = intRow tlp := by
          have h9 := congrArg (List.drop 1) o4
          rw [List.drop_take] at h9
          exact h9
        have r0 : ∀ h : 0 < a'.R.length, a'.R[0]'h = .int sw := fun h => by
          have h9 := congrArg (fun l : List PV => l[0]?) o4
          simp only [List.getElem?_take, if_pos (Nat.succ_pos _)] at h9
          rw [List.getElem?_eq_getElem h] at h9
          exact Option.some.inj h9
        have hd2 := deal_own sw ⟨bsw.1, by unfold Qi; omega⟩ (b0 := a'.b) (off := 1) (cap0 := a'.cap - 1) (T0 := T.int) (cs := a'.R) tlp q hn1 (by omega) (by omega) ((a'.b, .arr T.int a'.R) :: S3) (by simp) (by omega) r2
        have hd3 : tlp.length = 0 → ∀ st, Rets P F.shares_Deal [.int sw, .list true [] 0, .int (q : Int)] st (.tuple [Share.lst false (sharesL (sw :: tlp) q), .int 0]) := fun h st => by
          rw [List.eq_nil_of_length_eq_zero h]
          exact deal_spec sw ⟨bsw.1, by unfold Qi; omega⟩ true [] q hn1 (by omega) (by simp; omega) st
        have L2l := sharesL_len (sw :: tlp) q
        have L2g := fun (j : Nat) (h : j < q) => sharesL_get (sw :: tlp) q j h
        obtain ⟨L2, hL2⟩ : ∃ L2, sharesL (sw :: tlp) q = L2 := ⟨_, rfl⟩
        have kL2 : Hid (∀ j (h : j < q) (h2 : j < L2.length), L2[j] = ⟨(j : Int) + 1, ev (sw :: tlp) ((j : Int) + 1) % Qi⟩) := ⟨fun j h h2 => by
          have := L2g j h
          simp only [hL2] at this
          exact this⟩
        rw [hL2] at hd2 hd3 L2l
        have hRl : a'.R.length = a'.cap := by omega
        have L2i : (L2.length : Int) = q := by omega
        have hcap : (tlp.length : Int) + 1 ≤ a'.cap := by omega
        have hp0 : (1 : Int) ≤ pts.length := by omega
        have ktq : Hid (tlp.length < q ∧ pts.length ≤ tlp.length + 1) := ⟨by omega, by omega⟩
        obtain ⟨PT, hPT⟩ : ∃ PT, pts.drop 1 = PT := ⟨_, rfl⟩
        have hPd : List.drop 2 (Point.row pts) = Point.row PT := by rw [← hPT]; exact Point.row_drop pts 1
        have hPl : pts.length - 1 = PT.length := by rw [← hPT, List.length_drop]
        have kPT : Hid (∀ (j : Nat) (h : j < PT.length), ∃ n : Nat, n < q ∧ PT[j].X = (n : Int) + 1 ∧ PT[j].Y = ev (sw :: tlp) ((n : Int) + 1) % Qi) := ⟨fun j h => by
          subst hPT
          have hj : 1 + j < pts.length := by rw [List.length_drop] at h; omega
          obtain ⟨n, a, b, c⟩ := kU.out.known (1 + j) hj (by omega)
          have h9 := kE2.out (1 + j) hj
          rw [List.getElem_drop]
          rw [b] at h9
          exact ⟨n, a, b, h9.symm⟩⟩
        clear L2g hL2 o4 hl' hp2 o3 r2 hPT
        have rg : a'.R[0]? = some (.int sw) := by rw [List.getElem?_eq_getElem (by omega)]; exact congrArg some (r0 _)
        by_cases hcap1 : a'.cap = 1
        · have hd3' := hd3 (by omega)
          have ht0 : tlp.length = 0 := by omega
          clear hd3 hd2
          repeat' (first 
           | (with_reducible refine Rets.xcall (hd3' _) ?_)
           | (with_reducible refine DrawLate.intro [] ?_)
           | (simp -dsimp -implicitDefEqProofs [*]))
          refine xloop_for (fun j : Nat => [(1, intLst tb k), (4, .list td MR mo.length), (5, .val (.int .u8 a5)), (6, .list te (kn.map PV.bool) kn.length), (18, intLst false SW), (125, .list td MR mo.length), (126, .int m.length), (127, .int (i : Nat)), (32, Share.lst false L2), (254, Point.lst false PT), (255, .int PT.length), (256, .int (j : Nat))]) (fun _ => S3) (fun j => j ≤ PT.length) (fun j => PT.length - j) 0 (by omega) (by simp) (by repeat' (first | exact StLe.refl _ | (refine StLe_cons (by simp [*]; done) ?_) | (refine StLe_fresh (by simp [*]; done) ?_))) ?_
          intro j hj
          by_cases hjl : j < PT.length
          · have hwj := wrap_succ (n := j) (by omega)
            have H1 := kPT.out j hjl
            obtain ⟨n, hnq, hX, hY⟩ := H1
            have hL2n := kL2.out n hnq (by omega)
            generalize ev (sw :: tlp) ((n : Int) + 1) % Qi = v at *
            have wn : IntKind.i64.wrap (n : Int) = n := wrap_in (by omega) (by omega)
            have hnL : (n : Int) < L2.length := by omega
            have hnL2 : n < L2.length := by omega
            repeat' (first 
             | (with_reducible refine Fresh.intro fun b hb => ?_) <;> (try simp -dsimp -implicitDefEqProofs [*] at hb)
             | (simp -dsimp -implicitDefEqProofs [*]))
            exact Next.intro (j + 1) (by omega) (by omega) (by simp) (by repeat' (first | exact StLe.refl _ | (refine StLe_cons (by simp [*]; done) ?_) | (refine StLe_fresh (by simp [*]; done) ?_)))
          · have ej : j = PT.length := by omega
            subst ej
            repeat' (simp -dsimp -implicitDefEqProofs [*])
            exact Next.intro (i + 1) (by omega) (by omega) (by simp) (.refl _)
        · have hcap2 : ¬ (a'.cap : Int) = 1 := by omega
          clear hd3
          repeat' (first 
           | (with_reducible refine Rets.xcall (hd2) ?_)
           | (with_reducible refine DrawLate.intro [] ?_)
           | (with_reducible refine And.intro (fun h => ?_) (fun h => ?_)) <;> (try (exfalso; omega))
           | ((with_reducible refine and_keep ?_ fun hk => ?_); omega)
           | (simp -dsimp -implicitDefEqProofs [*]))
          refine xloop_for (fun j : Nat => [(1, intLst tb k), (4, .list td MR mo.length), (5, .val (.int .u8 a5)), (6, .list te (kn.map PV.bool) kn.length), (18, intLst false SW), (125, .list td MR mo.length), (126, .int m.length), (127, .int (i : Nat)), (32, Share.lst false L2), (254, Point.lst false PT), (255, .int PT.length), (256, .int (j : Nat))]) (fun _ => S3) (fun j => j ≤ PT.length) (fun j => PT.length - j) 0 (by omega) (by simp) (by repeat' (first | exact StLe.refl _ | (refine StLe_cons (by simp [*]; done) ?_) | (refine StLe_fresh (by simp [*]; done) ?_))) ?_
          intro j hj
          by_cases hjl : j < PT.length
          · have hwj := wrap_succ (n := j) (by omega)
            have H1 := kPT.out j hjl
            obtain ⟨n, hnq, hX, hY⟩ := H1
            have hL2n := kL2.out n hnq (by omega)
            generalize ev (sw :: tlp) ((n : Int) + 1) % Qi = v at *
            have wn : IntKind.i64.wrap (n : Int) = n := wrap_in (by omega) (by omega)
            have hnL : (n : Int) < L2.length := by omega
            have hnL2 : n < L2.length := by omega
            repeat' (first 
             | (with_reducible refine Fresh.intro fun b hb => ?_) <;> (try simp -dsimp -implicitDefEqProofs [*] at hb)
             | (simp -dsimp -implicitDefEqProofs [*]))
            exact Next.intro (j + 1) (by omega) (by omega) (by simp) (by repeat' (first | exact StLe.refl _ | (refine StLe_cons (by simp [*]; done) ?_) | (refine StLe_fresh (by simp [*]; done) ?_)))
          · have ej : j = PT.length := by omega
            subst ej
            repeat' (simp -dsimp -implicitDefEqProofs [*])
            exact Next.intro (i + 1) (by omega) (by omega) (by simp) (.refl _)
    · have e : i = m.length := by omega
      subst e
      repeat' (simp -dsimp -implicitDefEqProofs [*])
end Go.Proofs.YtmgpkcpalpejcaaDoor
