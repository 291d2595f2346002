/- The sum of the greatest numbers. -/
import Derived.Test.YtgjgcflgjpigpaaS26ZB
namespace Go.Proofs.Ytgjgcflgjpigpaa
open Go.Pv
set_option maxRecDepth 100000
set_option maxHeartbeats 8000000
theorem own_getE {l : List Int} {i : Nat} {C : List PV} (h : i < l.length) (h2 : i < (intRow l ++ C).length) : (intRow l ++ C)[i]'h2 = .int l[i] := by
  rw [List.getElem_append_left (by simpa using h)]; simp
theorem own_get {l : List Int} {i : Nat} {C : List PV} (h : i < l.length) : (intRow l ++ C)[i]? = some (.int l[i]) := by
  rw [List.getElem?_append_left (by simpa using h)]; exact intRow_get l i h
theorem own_set {l : List Int} {i : Nat} {v : Int} {C : List PV} (h : i < l.length) : (intRow l ++ C).set i (.int v) = intRow (l.set i v) ++ C := by
  rw [List.set_append_left _ _ (by simpa using h), intRow_set]
theorem acc_split {a : Acc Int} (h : a.Ok intRow 1) : ∃ C, a.R = intRow a.l ++ C ∧ a.l.length + C.length = a.cap := by
  refine ⟨a.R.drop (a.l.length * 1), ?_, ?_⟩
  · rw [← h.row, List.take_append_drop]
  · have := h.len; have := h.le
    rw [List.length_drop]; omega
theorem greatest_spec (t : Bool) (L : List Int) (hL : L.length ≤ 64) (ha : ∀ x ∈ L, 0 ≤ x ∧ x ≤ 1099511627776) (k : Nat) (hk : k ≤ 64) (st : Store) : Rets P F.season_greatest [intLst t L, .int k] st (.int (topSum L k)) := by
  refine H.season_greatest.view hmix rfl rfl ?_
  repeat' (simp -dsimp -implicitDefEqProofs [-xappend_list, *])
  refine xloop_for (fun s : Nat × Option (Acc Int) => [(1, .int k), (4, .int 0), (5, accP s.2), (12, intLst t L), (13, .int L.length), (14, .int s.1)]) (fun s => accS T.int st s.2)
    (fun s => s.1 ≤ L.length ∧ accOk intRow 1 st s.2 ∧ Hid (accL s.2 = keptS k (L.take s.1))) (fun s => L.length - s.1) (0, none) ⟨by simp, trivial, ⟨by simp [keptS]⟩⟩ (by simp) (.refl _) ?_
  rintro ⟨i, o⟩ ⟨hi, ho, hl⟩
  simp only at hi ho hl
  by_cases hil : i < L.length
  · have hw := wrap_succ (n := i) (by omega)
    have hlen : (accL o).length ≤ 64 := by rw [hl.out, keptS_len, List.length_take]; omega
    have hkept : Hid (∀ cur, cur = insF L[i] (accL o) → cur.take k = keptS k (L.take (i + 1))) := ⟨fun cur hc => by
      rw [hc, hl.out, List.take_succ_eq_append_getElem hil, keptS_snoc]⟩
    have hfall : Hid (Fall (accL o)) := ⟨by rw [hl.out]; exact keptS_fall _ _⟩
    obtain ⟨old, hold⟩ : ∃ old, old = accL o := ⟨_, rfl⟩
    obtain ⟨x, hx⟩ : ∃ x, x = L[i] := ⟨_, rfl⟩
    rw [← hold] at hlen hkept hfall
    rw [← hx] at hkept
    clear hl ha
    have hg : (intRow L)[i]? = some (.int x) := by rw [hx]; exact intRow_get L i hil
    have hgE : ∀ h : i < L.length, L[i] = x := fun _ => hx.symm
    clear hx
    repeat' (first 
     | (with_reducible refine Lit.imm ?_)
     | (simp -dsimp -implicitDefEqProofs [-xappend_list, *]))
    refine xappend_accP intRow_len intRow_append o ho [x] (by simp [intRow]) rfl (by omega) (by rw [← hold]; omega) fun o2 ho2 hl2 => ?_
    rw [← hold] at hl2
    cases o2 with
    | none => simp at hl2
    | some a =>
      obtain ⟨ha, hb⟩ := ho2
      obtain ⟨C, hC, hCl⟩ := acc_split ha
      have hcap := ha.cap
      have hle := ha.le
      obtain ⟨l, b, cap, R⟩ := a
      simp only [accL_some] at hl2
      simp only at hC hCl hb hcap hle
      subst hl2
      subst hC
      clear ha ho
      have hold2 : Hid (old = accL o) := ⟨hold⟩
      clear hold
      obtain ⟨n0, hn0⟩ : ∃ n0, n0 = old.length := ⟨_, rfl⟩
      have hN : (old ++ [x]).length = n0 + 1 := by simp [hn0]
      have hstart : Hid (InsQ old x (n0 - 0) (old ++ [x])) := ⟨by rw [hn0]; exact InsQ.start old x⟩
      rw [← hn0] at hlen
      simp only [accP_some, accS_some, hN] at *
      have w1 : IntKind.i64.wrap (n0 : Int) = (n0 : Int) := wrap_in (by omega) (by omega)
      have hn1 : Hid (n0 = old.length) := ⟨hn0⟩
      clear hn0 hN
      repeat' (simp -dsimp -implicitDefEqProofs [*])
      refine xloop_for (fun s : Nat × List Int => [(1, .int k), (4, .int 0), (5, .own b 0 (n0 + 1) cap), (12, intLst t L), (13, .int L.length), (14, .int i), (24, .int n0), (25, .int s.1)]) (fun s => (b, .arr T.int (intRow s.2 ++ C)) :: st)
        (fun s => s.1 ≤ n0 ∧ Hid (InsQ old x (n0 - s.1) s.2)) (fun s => n0 - s.1) (0, old ++ [x]) ⟨Nat.zero_le _, hstart⟩ (by simp) (.refl _) ?_
      clear hstart hg hgE w1
      have hnext : ∀ cur : List Int, cur = insF x old → ∃ o3 : Option (Acc Int), accOk intRow 1 st o3 ∧ Hid (accL o3 = keptS k (L.take (i + 1))) ∧ accP o3 = .own b 0 (if (k : Int) < n0 + 1 then (k : Int) else n0 + 1).toNat cap ∧ accS T.int st o3 = (b, .arr T.int (intRow cur ++ C)) :: st := fun cur hc => by
        have hcl : cur.length = n0 + 1 := by rw [hc, (insF_perm x old).length_eq, List.length_cons, hn1.out]
        refine ⟨some ⟨cur.take k, b, cap, intRow cur ++ C⟩, ⟨⟨?_, hcap, ?_, ?_⟩, hb⟩, ⟨hkept.out cur hc⟩, ?_, rfl⟩
        · simp only [List.length_take]; omega
        · simp only [List.length_append, intRow_len]; omega
        · simp only [Nat.mul_one, List.length_take]
          rw [List.take_append_of_le_length (by rw [intRow_len]; omega), intRow_take]
          congr 1
          rcases Nat.le_total k cur.length with h | h
          · rw [Nat.min_eq_left h]
          · rw [Nat.min_eq_right h, List.take_of_length_le h, List.take_length]
        · simp only [accP_some, List.length_take, hcl]
          congr 1
          split <;> omega
      rintro ⟨j, cur⟩ ⟨hj, hI⟩
      simp only at hj hI
      have hcl := hI.out.len.1
      rw [← hn1.out] at hcl
      by_cases hjn : j < n0
      · have hwj := wrap_succ (n := j) (by omega)
        obtain ⟨m, hm⟩ : ∃ m, n0 - j = m + 1 := ⟨n0 - j - 1, by omega⟩
        rw [hm] at hI
        obtain ⟨v, e1, e2, e3, e4⟩ := hI.out.step hfall.out
        obtain ⟨q, hq⟩ : ∃ q, q = m + 1 := ⟨_, rfl⟩
        have w1 : IntKind.i64.wrap (n0 : Int) = (n0 : Int) := wrap_in (by omega) (by omega)
        have wq : IntKind.i64.wrap ((n0 : Int) - j) = (q : Int) := by rw [wrap_in (by omega) (by omega)]; omega
        have wm : IntKind.i64.wrap ((q : Int) - 1) = (m : Int) := by rw [wrap_in (by omega) (by omega)]; omega
        rw [← hq] at e2 e3
        obtain ⟨l3, hl3⟩ : ∃ l3, l3 = (cur.set m x).set q v := ⟨_, rfl⟩
        rw [← hl3] at e3
        have t1 : ∀ h, (intRow cur ++ C)[m]'h = .int v := fun h => by rw [own_getE (by omega), e1 (by omega)]
        have t2 : ∀ h, (intRow cur ++ C)[q]'h = .int x := fun h => by rw [own_getE (by omega), e2 (by omega)]
        have s1 : (intRow cur ++ C)[m]? = some (.int v) := by rw [own_get (by omega), e1 (by omega)]
        have s2 : (intRow cur ++ C)[q]? = some (.int x) := by rw [own_get (by omega), e2 (by omega)]
        have t3 : (intRow cur ++ C).set m (.int x) = intRow (cur.set m x) ++ C := own_set (by omega)
        have t4 : (intRow (cur.set m x) ++ C).set q (.int v) = intRow l3 ++ C := by rw [own_set (by simp; omega), hl3]
        have tl : (intRow cur ++ C).length = n0 + 1 + C.length := by simp [hcl]
        have tl2 : (intRow (cur.set m x) ++ C).length = n0 + 1 + C.length := by simp [hcl]
        have g1 : m < n0 + 1 + C.length ∧ q < n0 + 1 + C.length ∧ m < n0 + 1 ∧ q < n0 + 1 := by omega
        have hm2 : Hid (n0 - j = m + 1) := ⟨hm⟩
        obtain ⟨B0, hB0⟩ : ∃ B, B = intRow cur ++ C := ⟨_, rfl⟩
        obtain ⟨B1, hB1⟩ : ∃ B, B = intRow (cur.set m x) ++ C := ⟨_, rfl⟩
        have kn : Hid _ := ⟨hnext⟩
        have hml : Hid (m = n0 - (j + 1)) := ⟨by omega⟩
        clear hq hm hl3 e1 e2 hI hnext
        by_cases hv : v < x
        · have e3 : Hid _ := ⟨e3 hv⟩
          rw [← hB0] at t1 t2 t3 tl s1 s2
          rw [← hB1] at t3 t4 tl2
          simp only [← hB0]
          have hv2 : ¬ x ≤ v := by omega
          clear kn hB0 hB1 e4 hv
          repeat' (first 
           | ((with_reducible refine and_keep ?_ fun hk => ?_); omega)
           | (simp -dsimp -implicitDefEqProofs [*]))
          refine DrawLate.intro [] ?_
          repeat' (first 
           | ((with_reducible refine and_keep ?_ fun hk => ?_); omega)
           | (simp -dsimp -implicitDefEqProofs [*]))
          exact Next.intro (j + 1, l3) ⟨by simp only; omega, ⟨by rw [← hml.out]; exact e3.out⟩⟩ (by simp only; omega) (by simp) (by repeat' (first | exact StLe.refl _ | (refine StLe_cons (by simp [*]; done) ?_) | (refine StLe_fresh (by simp [*]; done) ?_)))
        · obtain ⟨o3, q1, q2, q3, q4⟩ := kn.out cur (e4 (by omega))
          have hv2 : x ≤ v := by omega
          rw [← hB0] at t1 t2 t3 tl s1 s2 q4
          simp only [← hB0]
          clear kn hB0 hB1 e3 e4 hv t3 t4 tl2 hfall hkept
          repeat' (first 
           | ((with_reducible refine and_keep ?_ fun hk => ?_); omega)
           | (simp -dsimp -implicitDefEqProofs [*]))
          exact Next.intro (i + 1, o3) ⟨by simp only; omega, q1, q2⟩ (by simp only; omega) (by simp [*]) (by simp only [q4]; exact .refl _)
      · obtain rfl : j = n0 := by omega
        obtain ⟨o3, q1, q2, q3, q4⟩ := hnext cur (by rw [Nat.sub_self] at hI; exact hI.out.final)
        clear hnext hI hfall hkept
        repeat' (first 
         | ((with_reducible refine and_keep ?_ fun hk => ?_); omega)
         | (simp -dsimp -implicitDefEqProofs [*]))
        exact Next.intro (i + 1, o3) ⟨by simp only; omega, q1, q2⟩ (by simp only; omega) (by simp [*]) (by simp only [q4]; exact .refl _)
  · obtain rfl : i = L.length := by omega
    have hS : Hid (accL o = keptS k L) := ⟨by rw [hl.out, List.take_length]⟩
    have hm : ∀ x ∈ accL o, 0 ≤ x ∧ x ≤ 1099511627776 := fun x hx => ha x (keptS_mem (hS.out ▸ hx))
    have hlen : (accL o).length ≤ 64 := by rw [hS.out, keptS_len]; omega
    have e : topSum L k = (accL o).sum := by rw [hS.out, keptS_sum]
    rw [e]
    clear e hl ha hS hi hil
    cases o with
    | none =>
      repeat' (simp -dsimp -implicitDefEqProofs [*])
      refine xloop_for (fun _ : Unit => [(4, .int 0), (67, .nil), (68, .int 0), (69, .int 0)]) (fun _ => st) (fun _ => True) (fun _ => 0) () trivial (by simp) (.refl _) ?_
      rintro - -
      repeat' (simp -dsimp -implicitDefEqProofs [*])
      exact .same ⟨rfl, rfl⟩
    | some a =>
      obtain ⟨ha, hb⟩ := ho
      obtain ⟨C, hC, hCl⟩ := acc_split ha
      have hcap := ha.cap
      have hle := ha.le
      obtain ⟨l, b, cap, R⟩ := a
      simp only [accL_some] at hm hlen ⊢
      simp only at hC hCl hb hcap hle
      subst hC
      clear ha
      simp only [accP_some, accS_some]
      repeat' (simp -dsimp -implicitDefEqProofs [*])
      refine xloop_for (fun n : Nat => [(4, .int (l.take n).sum), (67, .own b 0 l.length cap), (68, .int l.length), (69, .int n)]) (fun _ => (b, .arr T.int (intRow l ++ C)) :: st)
        (fun n => n ≤ l.length) (fun n => l.length - n) 0 (Nat.zero_le _) (by simp) (.refl _) ?_
      intro n hn
      by_cases hnl : n < l.length
      · have hw := wrap_succ (n := n) (by omega)
        have e1 : (l.take (n + 1)).sum = (l.take n).sum + l[n] := by rw [List.take_succ_eq_append_getElem hnl, List.sum_append]; simp
        have b0 := sum_le (l := l.take n) (c := 1099511627776) fun x hx => hm x (List.mem_of_mem_take hx)
        have b1 := hm l[n] (List.getElem_mem hnl)
        have b2 : ((l.take n).length : Int) ≤ 64 := by rw [List.length_take]; omega
        have w2 : IntKind.i64.wrap ((l.take n).sum + l[n]) = (l.take (n + 1)).sum := by rw [e1, wrap_in (by omega) (by omega)]
        have t1 : ∀ h, (intRow l ++ C)[n]'h = .int l[n] := fun h => own_getE hnl h
        have s1 : (intRow l ++ C)[n]? = some (.int l[n]) := own_get hnl
        have tl : (intRow l ++ C).length = l.length + C.length := by simp
        have g1 : n < l.length + C.length := by omega
        obtain ⟨B0, hB0⟩ : ∃ B, B = intRow l ++ C := ⟨_, rfl⟩
        obtain ⟨S0, hS0⟩ : ∃ S, S = (l.take n).sum := ⟨_, rfl⟩
        obtain ⟨S1, hS1⟩ : ∃ S, S = (l.take (n + 1)).sum := ⟨_, rfl⟩
        obtain ⟨v, hv⟩ : ∃ v, v = l[n] := ⟨_, rfl⟩
        rw [← hB0] at t1 s1 tl
        rw [← hS0, ← hS1, ← hv] at w2
        rw [← hv] at t1 s1
        simp only [← hB0, ← hS0]
        have kB : Hid (B0 = intRow l ++ C) := ⟨hB0⟩
        have kS : Hid (S1 = (l.take (n + 1)).sum) := ⟨hS1⟩
        clear e1 b0 b1 b2 hm hB0 hS0 hS1 hv
        repeat' (simp -dsimp -implicitDefEqProofs [*])
        exact Next.intro (n + 1) (by omega) (by omega) (by simp [kS.out]) (by simp only [kB.out]; exact .refl _)
      · obtain rfl : n = l.length := by omega
        rw [List.take_length]
        clear hm
        repeat' (simp -dsimp -implicitDefEqProofs [*])
        exact RetView.drop (st' := st) (by repeat' (first | exact StLe.refl _ | (refine StLe_cons (by simp [*]; done) ?_) | (refine StLe_fresh (by simp [*]; done) ?_))) ⟨rfl, rfl⟩
end Go.Proofs.Ytgjgcflgjpigpaa
/- Totals. -/
namespace Go.Proofs.Ytgjgcflgjpigpaa
open Go.Pv
set_option maxRecDepth 100000
set_option maxHeartbeats 8000000
/-- Lists of points in their cells. -/
def llRow (L : List (Bool × List Int)) : List PV := L.map fun r => intLst r.1 r.2
@[simp] theorem llRow_len (L : List (Bool × List Int)) : (llRow L).length = L.length := by simp [llRow]
theorem llRow_get {L : List (Bool × List Int)} {n : Nat} (h : n < L.length) : (llRow L)[n]? = some (intLst L[n].1 L[n].2) := by simp [llRow, h]
theorem llRow_getE {L : List (Bool × List Int)} {n : Nat} (h : n < L.length) (h2 : n < (llRow L).length) : (llRow L)[n]'h2 = intLst L[n].1 L[n].2 := by simp [llRow]
abbrev llLst (t : Bool) (L : List (Bool × List Int)) : PV := .list t (llRow L) L.length
def Short (L : List (Bool × List Int)) : Prop := L.length ≤ 9223372036854775807 ∧ ∀ r ∈ L, r.2.length ≤ 9223372036854775807
theorem idxL_spec (g : FuncId) (p : Bool × List Int → Bool) (t : Bool) (L : List (Bool × List Int)) (hf : ∀ d ∈ L, ∀ st, Rets P g [intLst d.1 d.2] st (.bool (p d))) (hL : L.length ≤ 9223372036854775807) (st : Store) : Rets P F.slices_IndexFunc__LLint_Lint [llLst t L, .func (.func g) [] []] st (.int (idxG p L)) := by
  refine H.slices_IndexFunc__LLint_Lint.view hmix rfl rfl ?_
  repeat' (simp -dsimp -implicitDefEqProofs [*])
  refine xloop_for (fun n : Nat => [(0, llLst t L), (1, .func (.func g) [] []), (7, .int L.length), (8, .int n)]) (fun _ => st) (fun n => n ≤ L.length ∧ Hid (∀ j (hj : j < n) (hl : j < L.length), p L[j] = false)) (fun n => L.length - n) 0 ⟨Nat.zero_le _, ⟨fun j hj => absurd hj (by omega)⟩⟩ (by simp) (.refl _) ?_
  rintro n ⟨hn, he2⟩
  by_cases hnl : n < L.length
  · have hw := wrap_succ (n := n) (by omega)
    have hf1 := hf L[n] (List.getElem_mem hnl)
    have hi : Hid (p L[n] = true → idxG p L = n) := ⟨fun hp => idxG_found hnl (fun j hj => he2.out j hj (by omega)) hp⟩
    have hno : Hid (p L[n] = false → ∀ j (hj : j < n + 1) (hl : j < L.length), p L[j] = false) := ⟨fun hp j hj hl => if h : j = n then by subst h; exact hp else he2.out j (by omega) hl⟩
    have g1 := llRow_get hnl
    have g2 := llRow_getE hnl
    clear hf he2
    cases hp : p L[n] with
    | true =>
      rw [hp] at hf1
      have e := hi.out hp
      rw [e]
      clear hp hi hno
      repeat' (first 
       | (with_reducible refine Rets.xcall (hf1 _) ?_)
       | (simp -dsimp -implicitDefEqProofs [*]))
      exact .same ⟨rfl, rfl⟩
    | false =>
      rw [hp] at hf1
      have e : Hid _ := ⟨hno.out hp⟩
      clear hp hi hno
      repeat' (first 
       | (with_reducible refine Rets.xcall (hf1 _) ?_)
       | (simp -dsimp -implicitDefEqProofs [*]))
      exact Next.intro (n + 1) ⟨by omega, e⟩ (by omega) (by simp) (by repeat' (first | exact StLe.refl _ | (refine StLe_cons (by simp [*]; done) ?_) | (refine StLe_fresh (by simp [*]; done) ?_)))
  · have e : n = L.length := by omega
    subst e
    have hi : Hid (idxG p L = -1) := ⟨idxG_none fun j hj => he2.out j hj hj⟩
    rw [hi.out]
    clear hf he2
    repeat' (simp -dsimp -implicitDefEqProofs [*])
    exact .same ⟨rfl, rfl⟩
theorem contL_spec (g : FuncId) (p : Bool × List Int → Bool) (t : Bool) (L : List (Bool × List Int)) (hf : ∀ d ∈ L, ∀ st, Rets P g [intLst d.1 d.2] st (.bool (p d))) (hL : L.length ≤ 9223372036854775807) (st : Store) : Rets P F.slices_ContainsFunc__LLint_Lint [llLst t L, .func (.func g) [] []] st (.bool (L.any p)) := by
  have hi := idxL_spec g p t L hf hL
  have e := idxG_pos p L
  rw [← e]
  obtain ⟨v, hv⟩ : ∃ v, v = idxG p L := ⟨_, rfl⟩
  rw [← hv] at hi ⊢
  clear hv e hf
  refine H.slices_ContainsFunc__LLint_Lint.pure hmix rfl rfl ?_
  repeat' (first 
   | (with_reducible refine Rets.xcall (hi _) ?_)
   | (simp -dsimp -implicitDefEqProofs [*]))
theorem total1_spec (t : Bool) (r : List Int) (st : Store) : Rets P F.season_Total_1 [intLst t r] st (.bool (decide ((64 : Int) < r.length))) := by
  refine H.season_Total_1.pure hmix rfl rfl ?_
  repeat' (simp -dsimp -implicitDefEqProofs [*])
theorem total2_spec (t : Bool) (r : List Int) (hr : r.length ≤ 9223372036854775807) (st : Store) : Rets P F.season_Total_2 [intLst t r] st (.bool (!r.all amt)) := by
  have c := amounts_spec t r hr
  obtain ⟨v, hv⟩ : ∃ v, v = r.all amt := ⟨_, rfl⟩
  rw [← hv] at c ⊢
  clear hv
  refine H.season_Total_2.pure hmix rfl rfl ?_
  repeat' (first 
   | (with_reducible refine Rets.xcall (c _) ?_)
   | (simp -dsimp -implicitDefEqProofs [*]))
/-- The error of a total. -/
def totE (L : List (Bool × List Int)) (best : Int) : Int :=
  if decide ((4096 : Int) < L.length) || L.any (fun r => decide ((64 : Int) < r.2.length)) then 2
  else if !btw best 0 64 || L.any (fun r => !r.2.all amt) then 260 else 0
def totL (L : List (Bool × List Int)) (best : Int) : List Int := if totE L best = 0 then L.map fun r => topSum r.2 best.toNat else []
theorem total_spec (t : Bool) (L : List (Bool × List Int)) (hL : Short L) (best : Int) (st : Store) : Rets P F.season_Total [llLst t L, .int best] st (.tuple [intLst false (totL L best), .int (totE L best)]) := by
  obtain ⟨h1, h2⟩ := hL
  have c1 := contL_spec F.season_Total_1 (fun r => decide ((64 : Int) < r.2.length)) t L (fun d _ st => total1_spec d.1 d.2 st) h1
  have c2 := contL_spec F.season_Total_2 (fun r => !r.2.all amt) t L (fun d hd st => total2_spec d.1 d.2 (h2 d hd) st) h1
  have c3 := between_spec best 0 64
  have hv2 : L.any (fun r => decide ((64 : Int) < r.2.length)) = false → ∀ r ∈ L, r.2.length ≤ 64 := fun h r hr => by
    have := List.any_eq_false.1 h r hr
    simp at this
    omega
  have hv4 : L.any (fun r => !r.2.all amt) = false → ∀ r ∈ L, ∀ x ∈ r.2, 0 ≤ x ∧ x ≤ 1099511627776 := fun h r hr x hx => by
    have h3 := List.any_eq_false.1 h r hr
    have h4 : r.2.all amt = true := by simpa using h3
    exact amt_iff.1 (List.all_eq_true.1 h4 x hx)
  have eL : totL L best = if totE L best = 0 then L.map fun r => topSum r.2 best.toNat else [] := rfl
  have eE : totE L best = if decide ((4096 : Int) < L.length) || L.any (fun r => decide ((64 : Int) < r.2.length)) then 2 else if !btw best 0 64 || L.any (fun r => !r.2.all amt) then 260 else 0 := rfl
  rw [eL, eE]
  clear eL eE h2
  obtain ⟨v2, hq2⟩ : ∃ v, v = L.any (fun r => decide ((64 : Int) < r.2.length)) := ⟨_, rfl⟩
  obtain ⟨v3, hq3⟩ : ∃ v, v = btw best 0 64 := ⟨_, rfl⟩
  obtain ⟨v4, hq4⟩ : ∃ v, v = L.any (fun r => !r.2.all amt) := ⟨_, rfl⟩
  rw [← hq2] at c1 hv2 ⊢
  rw [← hq3] at c3 ⊢
  rw [← hq4] at c2 hv4 ⊢
  clear hq2 hq4
  obtain ⟨v1, hq1⟩ : ∃ v, v = decide ((4096 : Int) < L.length) := ⟨_, rfl⟩
  rw [← hq1]
  cases v1 with
  | true =>
    have n1 : (4096 : Int) < L.length := of_decide_eq_true hq1.symm
    clear hv2 hv4 hq3 hq1
    show Rets P F.season_Total [llLst t L, .int best] st (.tuple [intLst false [], .int 2])
    refine H.season_Total.view hmix rfl rfl ?_
    repeat' (simp -dsimp -implicitDefEqProofs [*])
    exact .sees (.tuple2l (.nil0 _)) (RetView.drop (st' := st) (by repeat' (first | exact StLe.refl _ | (refine StLe_cons (by simp [*]; done) ?_) | (refine StLe_fresh (by simp [*]; done) ?_))) ⟨rfl, rfl⟩)
  | false =>
    have n1 : ¬ (4096 : Int) < L.length := of_decide_eq_false hq1.symm
    clear hq1
    cases v2 with
    | true =>
      clear hv2 hv4 hq3
      show Rets P F.season_Total [llLst t L, .int best] st (.tuple [intLst false [], .int 2])
      refine H.season_Total.view hmix rfl rfl ?_
      repeat' (first 
       | (with_reducible refine Rets.xcall (c1 _) ?_)
       | (simp -dsimp -implicitDefEqProofs [*]))
      exact .sees (.tuple2l (.nil0 _)) (RetView.drop (st' := st) (by repeat' (first | exact StLe.refl _ | (refine StLe_cons (by simp [*]; done) ?_) | (refine StLe_fresh (by simp [*]; done) ?_))) ⟨rfl, rfl⟩)
    | false =>
      cases v3 with
      | false =>
        clear hv2 hv4 hq3
        show Rets P F.season_Total [llLst t L, .int best] st (.tuple [intLst false [], .int 260])
        refine H.season_Total.view hmix rfl rfl ?_
        repeat' (first 
         | (with_reducible refine Rets.xcall (c1 _) ?_)
         | (with_reducible refine Rets.xcall (c3 _) ?_)
         | (simp -dsimp -implicitDefEqProofs [*]))
        exact .sees (.tuple2l (.nil0 _)) (RetView.drop (st' := st) (by repeat' (first | exact StLe.refl _ | (refine StLe_cons (by simp [*]; done) ?_) | (refine StLe_fresh (by simp [*]; done) ?_))) ⟨rfl, rfl⟩)
      | true =>
        cases v4 with
        | true =>
          clear hv2 hv4 hq3
          show Rets P F.season_Total [llLst t L, .int best] st (.tuple [intLst false [], .int 260])
          refine H.season_Total.view hmix rfl rfl ?_
          repeat' (first 
           | (with_reducible refine Rets.xcall (c1 _) ?_)
           | (with_reducible refine Rets.xcall (c2 _) ?_)
           | (with_reducible refine Rets.xcall (c3 _) ?_)
           | (simp -dsimp -implicitDefEqProofs [*]))
          exact .sees (.tuple2l (.nil0 _)) (RetView.drop (st' := st) (by repeat' (first | exact StLe.refl _ | (refine StLe_cons (by simp [*]; done) ?_) | (refine StLe_fresh (by simp [*]; done) ?_))) ⟨rfl, rfl⟩)
        | false =>
          have hb : 0 ≤ best ∧ best ≤ 64 := by unfold btw at hq3; simpa using hq3.symm
          obtain ⟨k, rfl⟩ : ∃ k : Nat, best = k := ⟨best.toNat, by omega⟩
          have hk : k ≤ 64 := by omega
          have cg : ∀ (n : Nat) (h : n < L.length) st, Rets P F.season_greatest [intLst L[n].1 L[n].2, .int k] st (.int (topSum L[n].2 k)) := fun n h st =>
            greatest_spec _ _ (hv2 rfl _ (List.getElem_mem h)) (hv4 rfl _ (List.getElem_mem h)) k hk st
          clear hv2 hv4 hq3 hb
          show Rets P F.season_Total [llLst t L, .int k] st (.tuple [intLst false (L.map fun r => topSum r.2 k), .int 0])
          refine H.season_Total.view hmix rfl rfl ?_
          repeat' (first 
           | (with_reducible refine Rets.xcall (c1 _) ?_)
           | (with_reducible refine Rets.xcall (c2 _) ?_)
           | (with_reducible refine Rets.xcall (c3 _) ?_)
           | (simp -dsimp -implicitDefEqProofs [-xappend_list, *]))
          refine xloop_for (fun s : Nat × Option (Acc Int) => [(1, .int k), (4, accP s.2), (22, llLst t L), (23, .int L.length), (24, .int s.1)]) (fun s => accS T.int st s.2)
            (fun s => s.1 ≤ L.length ∧ accOk intRow 1 st s.2 ∧ Hid (accL s.2 = (L.take s.1).map fun r => topSum r.2 k)) (fun s => L.length - s.1) (0, none) ⟨by simp, trivial, ⟨by simp⟩⟩ (by simp) (.refl _) ?_
          rintro ⟨i, o⟩ ⟨hi, ho, hl⟩
          simp only at hi ho hl
          clear c1 c2 c3
          by_cases hil : i < L.length
          · have hw := wrap_succ (n := i) (by omega)
            have g1 := llRow_get hil
            have g2 := llRow_getE hil
            have cg := cg i hil
            have hlen : (accL o).length ≤ 4096 := by rw [hl.out, List.length_map, List.length_take]; omega
            have hl2 : Hid (∀ M, M = accL o ++ [topSum L[i].2 k] → M = (L.take (i + 1)).map fun r => topSum r.2 k) := ⟨fun M h => by rw [h, hl.out, List.take_succ_eq_append_getElem hil, List.map_append]; rfl⟩
            obtain ⟨v, hv⟩ : ∃ v, v = topSum L[i].2 k := ⟨_, rfl⟩
            rw [← hv] at cg hl2
            clear hl hv
            repeat' (first 
             | (with_reducible refine Rets.xcall (cg _) ?_)
             | (with_reducible refine Lit.imm ?_)
             | (simp -dsimp -implicitDefEqProofs [-xappend_list, *]))
            refine xappend_accP intRow_len intRow_append o ho [v] (by simp [intRow]) rfl (by omega) (by omega) fun o2 ho2 hl3 => ?_
            have hl4 : Hid _ := ⟨hl2.out _ hl3⟩
            clear hl3 hl2 ho hlen
            repeat' (simp -dsimp -implicitDefEqProofs [-xappend_list, *])
            exact Next.intro (i + 1, o2) ⟨by simp only; omega, ho2, hl4⟩ (by simp only; omega) (by simp) (by repeat' (first | exact StLe.refl _ | (refine StLe_cons (by simp [*]; done) ?_) | (refine StLe_fresh (by simp [*]; done) ?_)))
          · obtain rfl : i = L.length := by omega
            clear cg hil
            repeat' (simp -dsimp -implicitDefEqProofs [*])
            refine RetView.accP2 rfl ho (.same ⟨by rw [hl.out, List.take_length], rfl⟩)
end Go.Proofs.Ytgjgcflgjpigpaa
