/- The reference's Total: walk. -/
import Derived.Test.YtgjgcflgjpigpaaS26ZF
namespace Go.Proofs.Ytgjgcflgjpigpaa
open Go.Pv
set_option maxRecDepth 100000
set_option maxHeartbeats 8000000
theorem rTotal_spec (t : Bool) (L : List (Bool × List Int)) (best : Int) (st : Store) : Rets P F.podiumref26_Total [llLst t L, .int best] st (.tuple [intLst false (totL L best), .int (totE L best)]) := by
  have k := tot_k L best
  obtain ⟨E, hE⟩ : ∃ E, E = totE L best := ⟨_, rfl⟩
  obtain ⟨M, hM⟩ : ∃ M, M = totL L best := ⟨_, rfl⟩
  rw [← hE, ← hM] at k ⊢
  clear hE hM
  refine H.podiumref26_Total.view hmix rfl rfl ?_
  by_cases n1 : 4096 < L.length
  · obtain ⟨rfl, rfl⟩ := k.k1 n1
    have n1' : (4096 : Int) < L.length := by omega
    clear k
    repeat' (simp -dsimp -implicitDefEqProofs [*])
    exact .sees (.tuple2l (.nil0 _)) (RetView.drop (st' := st) (by repeat' (first | exact StLe.refl _ | (refine StLe_cons (by simp [*]; done) ?_) | (refine StLe_fresh (by simp [*]; done) ?_))) ⟨rfl, rfl⟩)
  · have n1' : ¬ (4096 : Int) < L.length := by omega
    have hlt : L.length ≤ 4096 := by omega
    clear n1
    have kk : Hid _ := ⟨k⟩
    clear k
    repeat' (simp -dsimp -implicitDefEqProofs [*])
    refine xloop_for (fun n : Nat => [(0, llLst t L), (1, .int best), (6, .int n)]) (fun _ => st) (fun n => n ≤ L.length ∧ Hid (∀ j (h : j < L.length), j < n → L[j].2.length ≤ 64)) (fun n => L.length - n) 0 ⟨Nat.zero_le _, ⟨fun j _ h => absurd h (by omega)⟩⟩ (by simp) (.refl _) ?_
    clear n1'
    rintro n ⟨hn, hI⟩
    by_cases hnl : n < L.length
    · have hw := wrap_succ (n := n) (by omega)
      have g1 := llRow_get hnl
      have g2 := llRow_getE hnl
      by_cases hr : L[n].2.length ≤ 64
      · have hI2 : Hid (∀ j (h : j < L.length), j < n + 1 → L[j].2.length ≤ 64) := ⟨fun j h h2 => if e : j = n then by subst e; exact hr else hI.out j h (by omega)⟩
        have hr2 : ¬ (64 : Int) < L[n].2.length := by omega
        clear hI
        repeat' (simp -dsimp -implicitDefEqProofs [*])
        exact Next.intro (n + 1) ⟨by omega, hI2⟩ (by omega) (by simp) (by repeat' (first | exact StLe.refl _ | (refine StLe_cons (by simp [*]; done) ?_) | (refine StLe_fresh (by simp [*]; done) ?_)))
      · obtain ⟨rfl, rfl⟩ := kk.out.k2 n hnl (by omega)
        have hr2 : (64 : Int) < L[n].2.length := by omega
        clear hI kk
        repeat' (simp -dsimp -implicitDefEqProofs [*])
        exact .sees (.tuple2l (.nil0 _)) (RetView.drop (st' := st) (by repeat' (first | exact StLe.refl _ | (refine StLe_cons (by simp [*]; done) ?_) | (refine StLe_fresh (by simp [*]; done) ?_))) ⟨rfl, rfl⟩)
    · have hs : Hid (∀ r ∈ L, r.2.length ≤ 64) := ⟨fun r hr => by
        obtain ⟨j, hj, rfl⟩ := List.mem_iff_getElem.1 hr
        exact hI.out j hj (by omega)⟩
      clear hI
      by_cases hb : 0 ≤ best ∧ best ≤ 64
      case neg =>
        obtain ⟨rfl, rfl⟩ := kk.out.k3 hlt hs.out hb
        clear kk
        by_cases b0 : best < 0
        · clear hb
          repeat' (simp -dsimp -implicitDefEqProofs [*])
          exact .sees (.tuple2l (.nil0 _)) (RetView.drop (st' := st) (by repeat' (first | exact StLe.refl _ | (refine StLe_cons (by simp [*]; done) ?_) | (refine StLe_fresh (by simp [*]; done) ?_))) ⟨rfl, rfl⟩)
        · have b1 : 64 < best := by omega
          clear hb
          repeat' (simp -dsimp -implicitDefEqProofs [*])
          exact .sees (.tuple2l (.nil0 _)) (RetView.drop (st' := st) (by repeat' (first | exact StLe.refl _ | (refine StLe_cons (by simp [*]; done) ?_) | (refine StLe_fresh (by simp [*]; done) ?_))) ⟨rfl, rfl⟩)
      obtain ⟨k, rfl⟩ : ∃ k : Nat, best = k := ⟨best.toNat, by omega⟩
      have hk : k ≤ 64 := by omega
      have b0 : ¬ (k : Int) < 0 := by omega
      have b1 : ¬ (64 : Int) < k := by omega
      have hk5 : Hid ((∀ r ∈ L, ∀ x ∈ r.2, amt x = true) → E = 0 ∧ M = L.map fun r => topSum r.2 k) := ⟨fun h => kk.out.k5 hlt hs.out hb h⟩
      have hk4 : Hid (∀ j (h : j < L.length), ∀ x ∈ L[j].2, amt x = false → E = 260 ∧ M = []) := ⟨kk.out.k4 hlt hs.out⟩
      clear kk hb
      repeat' (first 
       | (with_reducible refine Lit.imm ?_)
       | (simp -dsimp -implicitDefEqProofs [-xappend_list, *]))
      refine xloop_for (fun s : Nat × Option (Acc Int) => [(0, llLst t L), (1, .int k), (7, accQ s.2), (8, .int s.1)]) (fun s => accS T.int st s.2)
        (fun s => s.1 ≤ L.length ∧ accOk intRow 1 st s.2 ∧ Hid (accL s.2 = (L.take s.1).map fun r => topSum r.2 k) ∧ Hid (∀ j (h : j < L.length), j < s.1 → ∀ x ∈ L[j].2, amt x = true)) (fun s => L.length - s.1) (0, none) ⟨Nat.zero_le _, trivial, ⟨by simp⟩, ⟨fun j _ h => absurd h (by simp)⟩⟩ (by simp [accQ]) (.refl _) ?_
      clear b0 b1 hnl hn
      rintro ⟨i, o⟩ ⟨hi, ho, hl, hA⟩
      simp only at hi ho hl hA
      by_cases hil : i < L.length
      · have hw := wrap_succ (n := i) (by omega)
        have g1 := llRow_get hil
        have g2 := llRow_getE hil
        have hr64 := hs.out _ (List.getElem_mem hil)
        have hbad : Hid (∀ x ∈ L[i].2, amt x = false → E = 260 ∧ M = []) := ⟨hk4.out i hil⟩
        have hlen : (accL o).length ≤ 4096 := by rw [hl.out, List.length_map, List.length_take]; omega
        have hl2 : Hid (∀ M, M = accL o ++ [topSum L[i].2 k] → M = (L.take (i + 1)).map fun r => topSum r.2 k) := ⟨fun M h => by rw [h, hl.out, List.take_succ_eq_append_getElem hil, List.map_append]; rfl⟩
        have hA2 : Hid ((∀ x ∈ L[i].2, amt x = true) → ∀ j (h : j < L.length), j < i + 1 → ∀ x ∈ L[j].2, amt x = true) := ⟨fun h j hj h2 => if e : j = i then by subst e; exact h else hA.out j hj (by omega)⟩
        obtain ⟨R, hR⟩ : ∃ R, R = L[i].2 := ⟨_, rfl⟩
        obtain ⟨u, hu⟩ : ∃ u, u = L[i].1 := ⟨_, rfl⟩
        rw [← hR] at hr64 hbad hl2 hA2 g1 g2
        rw [← hu] at g1 g2
        clear hR hu hl hA
        repeat' (first 
         | (with_reducible refine Lit.imm ?_)
         | (simp -dsimp -implicitDefEqProofs [-xappend_list, *]))
        refine xloop_for (fun m : Nat => [(0, llLst t L), (1, .int k), (7, accQ o), (8, .int i), (9, intLst (m == 0) (fallS (R.take m))), (10, .int m)]) (fun _ => accS T.int st o) (fun m => m ≤ R.length ∧ Hid (∀ x ∈ R.take m, amt x = true)) (fun m => R.length - m) 0 ⟨Nat.zero_le _, ⟨by simp⟩⟩ (by simp [fallS]) (.refl _) ?_
        rintro m ⟨hm, hB⟩
        by_cases hml : m < R.length
        · have hw2 := wrap_succ (n := m) (by omega)
          have g3 := intRow_get R m hml
          have ca := rAmount_spec R[m]
          cases hx : amt R[m] with
          | false =>
            rw [hx] at ca
            obtain ⟨rfl, rfl⟩ := hbad.out R[m] (List.getElem_mem hml) hx
            clear hbad hB hx hl2 hA2 hk4 hk5
            repeat' (first 
             | (with_reducible refine Rets.xcall (ca _) ?_)
             | (simp -dsimp -implicitDefEqProofs [-xappend_list, *]))
            cases o with
            | none => exact .sees (.tuple2l (.nil0 _)) (RetView.drop (st' := st) (by repeat' (first | exact StLe.refl _ | (refine StLe_cons (by simp [*]; done) ?_) | (refine StLe_fresh (by simp [*]; done) ?_))) ⟨rfl, rfl⟩)
            | some a =>
              obtain ⟨-, hb⟩ := ho
              exact .sees (.tuple2l (.nil0 _)) (RetView.drop (st' := st) (by repeat' (first | exact StLe.refl _ | (refine StLe_cons (by simp [*]; done) ?_) | (refine StLe_fresh (by simp [*]; done) ?_))) ⟨rfl, rfl⟩)
          | true =>
            rw [hx] at ca
            have hfl : (fallS (R.take m)).length ≤ 64 := by rw [(fallS_facts _).1.length_eq, List.length_take]; omega
            have cp := rPut_spec (m == 0) (fallS (R.take m)) (by omega) (fallS_fall _) R[m]
            have ef : insF R[m] (fallS (R.take m)) = fallS (R.take (m + 1)) := by rw [List.take_succ_eq_append_getElem hml, fallS_snoc]
            rw [ef] at cp
            have hB2 : Hid (∀ x ∈ R.take (m + 1), amt x = true) := ⟨fun x hx2 => by
              rw [List.take_succ_eq_append_getElem hml] at hx2
              rcases List.mem_append.1 hx2 with h | h
              · exact hB.out x h
              · rw [List.mem_singleton.1 h]; exact hx⟩
            clear hB hx hbad hl2 hA2 hk4 hk5 ef hfl
            repeat' (first 
             | (with_reducible refine Rets.xcall (ca _) ?_)
             | (with_reducible refine Rets.xcall (cp _) ?_)
             | (simp -dsimp -implicitDefEqProofs [-xappend_list, *]))
            exact Next.intro (m + 1) ⟨by omega, hB2⟩ (by omega) (by simp) (by repeat' (first | exact StLe.refl _ | (refine StLe_cons (by simp [*]; done) ?_) | (refine StLe_fresh (by simp [*]; done) ?_)))
        · obtain rfl : m = R.length := by omega
          have hB3 : ∀ x ∈ R, amt x = true := by have := hB.out; rwa [List.take_length] at this
          have hA3 : Hid _ := ⟨hA2.out hB3⟩
          have hSm : Hid (∀ x ∈ fallS R, 0 ≤ x ∧ x ≤ 1099511627776) := ⟨fun x hx => amt_iff.1 (hB3 x (fallS_mem.1 hx))⟩
          have hSl : (fallS R).length = R.length := (fallS_facts R).1.length_eq
          have hT : Hid (∀ M, M = accL o ++ [((fallS R).take k).sum] → M = (L.take (i + 1)).map fun r => topSum r.2 k) := ⟨hl2.out⟩
          rw [List.take_length]
          obtain ⟨S, hS⟩ : ∃ S, S = fallS R := ⟨_, rfl⟩
          rw [← hS] at hSm hSl hT ⊢
          obtain ⟨tt, htt⟩ : ∃ tt, tt = (R.length == 0) := ⟨_, rfl⟩
          simp only [← htt]
          clear hbad hB hl2 hA2 hk4 hk5 hB3 hS htt hml
          repeat' (simp -dsimp -implicitDefEqProofs [-xappend_list, *])
          refine xloop_for (fun q : Nat => [(0, llLst t L), (1, .int k), (7, accQ o), (8, .int i), (9, intLst tt S), (11, .int (S.take q).sum), (12, .int q)]) (fun _ => accS T.int st o) (fun q => q ≤ S.length ∧ q ≤ k) (fun q => S.length - q) 0 ⟨Nat.zero_le _, Nat.zero_le _⟩ (by simp) (.refl _) ?_
          rintro q ⟨hq, hqk⟩
          by_cases hql : q < S.length ∧ q < k
          · obtain ⟨hql, hqk2⟩ := hql
            have hw2 := wrap_succ (n := q) (by omega)
            have g3 := intRow_get S q hql
            have e1 : (S.take (q + 1)).sum = (S.take q).sum + S[q] := by rw [List.take_succ_eq_append_getElem hql, List.sum_append]; simp
            have b0 := sum_le (l := S.take q) (c := 1099511627776) fun x hx => hSm.out x (List.mem_of_mem_take hx)
            have b1 := hSm.out S[q] (List.getElem_mem hql)
            have b2 : ((S.take q).length : Int) ≤ 64 := by rw [List.length_take]; omega
            have w2 : IntKind.i64.wrap ((S.take q).sum + S[q]) = (S.take (q + 1)).sum := by rw [e1, wrap_in (by omega) (by omega)]
            obtain ⟨S0, hS0⟩ : ∃ X, X = (S.take q).sum := ⟨_, rfl⟩
            obtain ⟨S1, hS1⟩ : ∃ X, X = (S.take (q + 1)).sum := ⟨_, rfl⟩
            rw [← hS0, ← hS1] at w2
            simp only [← hS0]
            have kS : Hid (S1 = (S.take (q + 1)).sum) := ⟨hS1⟩
            have hqk3 : (q : Int) < k := by omega
            clear e1 b0 b1 b2 hS0 hS1
            repeat' (first 
             | (with_reducible refine And.intro (fun h => ?_) (fun h => ?_)) <;> (try (exfalso; omega))
             | ((with_reducible refine and_keep ?_ fun hk => ?_); omega)
             | (simp -dsimp -implicitDefEqProofs [-xappend_list, *]))
            exact Next.intro (q + 1) ⟨by omega, by omega⟩ (by omega) (by simp [kS.out]) (by repeat' (first | exact StLe.refl _ | (refine StLe_cons (by simp [*]; done) ?_) | (refine StLe_fresh (by simp [*]; done) ?_)))
          · have eS : S.take q = S.take k := by
              by_cases h : q = k
              · rw [h]
              · rw [List.take_of_length_le (by omega), List.take_of_length_le (by omega)]
            rw [eS]
            obtain ⟨v, hv⟩ : ∃ v, v = (S.take k).sum := ⟨_, rfl⟩
            rw [← hv] at hT
            simp only [← hv]
            clear hv eS
            have hc : (¬ q < S.length) ∨ (q < S.length ∧ ¬ (q : Int) < k) := by omega
            clear hql
            rcases hc with hc | ⟨hc, hc2⟩
            all_goals
              repeat' (first 
               | (with_reducible refine Lit.imm ?_)
               | (with_reducible refine And.intro (fun h => ?_) (fun h => ?_)) <;> (try (exfalso; omega))
               | (simp -dsimp -implicitDefEqProofs [-xappend_list, *]))
              refine xappend_accQ intRow_len intRow_append o ho [v] (by simp [intRow]) rfl (by omega) fun o2 ho2 hl3 => ?_
              have hl4 : Hid _ := ⟨hT.out _ hl3⟩
              clear hl3
              repeat' (simp -dsimp -implicitDefEqProofs [-xappend_list, *])
              exact Next.intro (i + 1, o2) ⟨by simp only; omega, ho2, hl4, hA3⟩ (by simp only; omega) (by simp) (by repeat' (first | exact StLe.refl _ | (refine StLe_cons (by simp [*]; done) ?_) | (refine StLe_fresh (by simp [*]; done) ?_)))
      · obtain rfl : i = L.length := by omega
        obtain ⟨rfl, rfl⟩ := hk5.out fun r hr x hx => by
          obtain ⟨j, hj, rfl⟩ := List.mem_iff_getElem.1 hr
          exact hA.out j hj hj x hx
        clear hk4 hk5 hA hil
        repeat' (simp -dsimp -implicitDefEqProofs [-xappend_list, *])
        refine RetView.accQ2 rfl ho (.same ⟨by rw [hl.out, List.take_length], rfl⟩)
end Go.Proofs.Ytgjgcflgjpigpaa
