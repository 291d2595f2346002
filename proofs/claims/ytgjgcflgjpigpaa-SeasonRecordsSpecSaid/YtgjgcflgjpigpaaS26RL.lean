/- The reference: the records among scores. -/
import Derived.Test.YtgjgcflgjpigpaaS26RH
namespace Go.Proofs.Ytgjgcflgjpigpaa
open Go.Pv
set_option maxRecDepth 100000
set_option maxHeartbeats 8000000
def CmpAllR (l : List Rec) : Prop := ∀ x ∈ l, ∀ y ∈ l, ∃ c : Int, (c < 0 ↔ x.score.val < y.score.val) ∧ ∀ st, Rets P F.podiumref10_Cmp [x.score.pv, y.score.pv] st (.tuple [.int c, .int 0])
theorem cmpAllR_of {l : List Rec} (h : ∀ x ∈ l, okR x.score = true) (hf : ∀ x ∈ l, few6 x.score = true) : CmpAllR l := fun x hx y hy => by
  obtain ⟨c, h1, -, -, h2⟩ := cmp6 (h x hx) (hf x hx) (h y hy) (hf y hy)
  exact ⟨c, h1, h2⟩
theorem CmpAllR.srt {l : List Rec} (h : CmpAllR l) : CmpAllR (srt SortRec.key l) := fun x hx y hy => h x (mem_srt.1 hx) y (mem_srt.1 hy)
abbrev sOf (l : List Rec) (i : Nat) : List Rec := srt SortRec.key (l.take i)
theorem sOf_step {l : List Rec} {i k : Nat} (hi : i < l.length) (hk : k ≤ (sOf l i).length) (h1 : ∀ j (h : j < (sOf l i).length), j < k → (sOf l i)[j].at_ ≤ l[i].at_) (h2 : ∀ h : k < (sOf l i).length, l[i].at_ < (sOf l i)[k].at_) : (sOf l i).take k ++ l[i] :: (sOf l i).drop k = sOf l (i + 1) := by
  have hs : Srtd SortRec.key ((sOf l i).take k ++ (sOf l i).drop k) := by rw [List.take_append_drop]; exact srt_srtd _
  rw [srt_snoc (key := SortRec.key) hs (fun p hp => ?_) (fun q hq => ?_), List.take_append_drop]
  · show srt SortRec.key (sOf l i ++ [l[i]]) = srt SortRec.key (l.take (i + 1))
    rw [List.take_succ_eq_append_getElem hi]
    exact srt_congr (Stb.app (srt_stb _).symm (.refl _))
  · obtain ⟨j, hj, rfl⟩ := List.mem_iff_getElem.1 hp
    rw [List.length_take] at hj
    rw [List.getElem_take]
    exact h1 j (by omega) (by omega)
  · obtain ⟨j, hj, rfl⟩ := List.mem_iff_getElem.1 hq
    rw [List.length_drop] at hj
    rw [List.getElem_drop]
    have h3 := h2 (by omega)
    by_cases e : j = 0
    · subst e; simpa using h3
    · have hk2 : k < (sOf l i).length := by omega
      have hk3 : k + j < (sOf l i).length := by omega
      have := List.pairwise_iff_getElem.1 (srt_srtd (key := SortRec.key) (l.take i)) k (k + j) hk2 hk3 (by omega)
      exact Int.lt_of_lt_of_le h3 this
theorem Rec.row_take (l : List Rec) (i : Nat) : (Rec.row l).take (i * 7) = Rec.row (l.take i) := flat_take Rec.enc 7 Rec.len l i
theorem Rec.row_drop (l : List Rec) (i : Nat) : (Rec.row l).drop (i * 7) = Rec.row (l.drop i) := flat_drop Rec.enc 7 Rec.len l i
theorem rRecords_spec (t : Bool) (l : List Rec) (hF : l.length ≤ 4096 → ∀ x ∈ l, few6 x.score = true) (st : Store) : Rets P F.podiumref26_Records [.list t (Rec.row l) l.length] st (.tuple [Rec.lst (recL l), .int (recE l)]) := by
  have k := rec_k l
  obtain ⟨E, hE⟩ : ∃ E, E = recE l := ⟨_, rfl⟩
  obtain ⟨M, hM⟩ : ∃ M, M = recL l := ⟨_, rfl⟩
  rw [← hE, ← hM] at k ⊢
  clear hE hM
  refine H.podiumref26_Records.view hmix rfl rfl ?_
  by_cases n1 : 4096 < l.length
  · obtain ⟨rfl, rfl⟩ := k.k1 n1
    have n1' : (4096 : Int) < l.length := by omega
    clear k
    repeat' (simp -dsimp -implicitDefEqProofs [*])
    exact .sees (.tuple2l (.nil0 _)) (RetView.drop (st' := st) (by repeat' (first | exact StLe.refl _ | (refine StLe_cons (by simp [*]; done) ?_) | (refine StLe_fresh (by simp [*]; done) ?_))) ⟨rfl, rfl⟩)
  have n1' : ¬ (4096 : Int) < l.length := by omega
  have hlt : l.length ≤ 4096 := by omega
  by_cases hL : ListedR l
  case neg =>
    obtain ⟨rfl, rfl⟩ : E = 260 ∧ M = [] := by
      have h2 := k.k2 hlt
      by_cases h : ∃ i, ∃ h : i < l.length, rightR l[i] (lastNo l i) = false
      · obtain ⟨i, hi, h⟩ := h
        exact h2 i hi h
      · refine absurd (fun i hi => ?_) hL
        cases e : rightR l[i] (lastNo l i) with
        | true => rfl
        | false => exact absurd ⟨i, hi, e⟩ h
    have cl := rListed_spec t l (by omega) (w := false) (fun h => absurd h hL) (fun _ _ _ => rfl)
    clear k hL hF
    repeat' (first 
     | (with_reducible refine Rets.xcall (cl _) ?_)
     | (simp -dsimp -implicitDefEqProofs [*]))
    exact .sees (.tuple2l (.nil0 _)) (RetView.drop (st' := st) (by repeat' (first | exact StLe.refl _ | (refine StLe_cons (by simp [*]; done) ?_) | (refine StLe_fresh (by simp [*]; done) ?_))) ⟨rfl, rfl⟩)
  obtain ⟨rfl, rfl⟩ := k.k3 hlt hL
  have cl := rListed_spec t l (by omega) (w := true) (fun _ => rfl) (fun i hi h => by have := hL i hi; rw [h] at this; cases this)
  have hc := cmpAllR_of hL.ok (hF hlt)
  clear k hL hF n1
  repeat' (first 
   | (with_reducible refine Rets.xcall (cl _) ?_)
   | (simp -dsimp -implicitDefEqProofs [*]))
  clear cl n1'
  refine xloop_for (fun i : Nat => [(0, .list t (Rec.row l) l.length), (4, .int i)]) (fun _ => st) (fun i => i ≤ l.length) (fun i => l.length - i) 0 (Nat.zero_le _) (by simp) (.refl _) ?_
  intro i hi
  by_cases hil : i < l.length
  · have hw := wrap_succ (n := i) (by omega)
    have si := Rec.row_score hil
    have hxi := List.getElem_mem hil
    have hi7 : i * 7 < l.length * 7 := by omega
    obtain ⟨x, hx⟩ : ∃ x, x = l[i] := ⟨_, rfl⟩
    rw [← hx] at si hxi
    clear hx
    repeat' (simp -dsimp -implicitDefEqProofs [*])
    refine xloop_for (fun k : Nat => [(0, .list t (Rec.row l) l.length), (4, .int i), (5, .int k)]) (fun _ => st) (fun k => k ≤ i) (fun k => i - k) 0 (Nat.zero_le _) (by simp) (.refl _) ?_
    intro k hk
    by_cases hki : k < i
    · have hkl : k < l.length := by omega
      have hw2 := wrap_succ (n := k) (by omega)
      have sk := Rec.row_score hkl
      have hxk := List.getElem_mem hkl
      have hk7 : k * 7 < l.length * 7 := by omega
      obtain ⟨y, hy⟩ : ∃ y, y = l[k] := ⟨_, rfl⟩
      rw [← hy] at sk hxk
      obtain ⟨c, -, cc⟩ := hc y hxk x hxi
      clear hy hc
      repeat' (first 
       | (with_reducible refine Rets.xcall (cc _) ?_)
       | (with_reducible refine DrawLate.intro [] ?_)
       | (simp -dsimp -implicitDefEqProofs [*]))
      exact Next.intro (k + 1) (by omega) (by omega) (by simp) (by repeat' (first | exact StLe.refl _ | (refine StLe_cons (by simp [*]; done) ?_) | (refine StLe_fresh (by simp [*]; done) ?_)))
    · obtain rfl : k = i := by omega
      clear hc
      repeat' (simp -dsimp -implicitDefEqProofs [*])
      exact Next.intro (k + 1) (by omega) (by omega) (by simp) (by repeat' (first | exact StLe.refl _ | (refine StLe_cons (by simp [*]; done) ?_) | (refine StLe_fresh (by simp [*]; done) ?_)))
  obtain rfl : i = l.length := by omega
  clear hil hi
  repeat' (first 
   | (with_reducible refine Lit.imm ?_)
   | (simp -dsimp -implicitDefEqProofs [-xappend_list, *]))
  refine xloop_for (fun i : Nat => [(0, .list t (Rec.row l) l.length), (8, .list (i == 0) (Rec.row (sOf l i)) (sOf l i).length), (9, .int i)]) (fun _ => st) (fun i => i ≤ l.length) (fun i => l.length - i) 0 (Nat.zero_le _) (by simp [sOf, srt, Rec.row]) (.refl _) ?_
  intro i hi
  by_cases hil : i < l.length
  · have hw := wrap_succ (n := i) (by omega)
    have si := Rec.row_sub l i hil
    have g2 := Rec.row_get2 l i hil
    have G2 : ∀ h, (Rec.row l)[i * 7 + 2]'h = .int l[i].at_ := fun h => by rw [List.getElem?_eq_getElem h] at g2; exact Option.some.inj g2
    have hi7 : i * 7 < l.length * 7 ∧ i * 7 + 2 < l.length * 7 := by omega
    have hSl : (sOf l i).length = i := by simp [sOf]; omega
    have hdone : Hid (∀ k, k ≤ (sOf l i).length → (∀ j (h : j < (sOf l i).length), j < k → (sOf l i)[j].at_ ≤ l[i].at_) → (∀ h : k < (sOf l i).length, l[i].at_ < (sOf l i)[k].at_) → (sOf l i).take k ++ l[i] :: (sOf l i).drop k = sOf l (i + 1)) := ⟨fun k h1 h2 h3 => sOf_step hil h1 h2 h3⟩
    have hS2 : Hid ((sOf l (i + 1)).length = i + 1) := ⟨by simp [sOf]; omega⟩
    obtain ⟨S2, hq2⟩ : ∃ S, S = sOf l (i + 1) := ⟨_, rfl⟩
    obtain ⟨S, hq⟩ : ∃ S, S = sOf l i := ⟨_, rfl⟩
    obtain ⟨x, hx⟩ : ∃ x, x = l[i] := ⟨_, rfl⟩
    rw [← hx] at hdone si g2 G2
    rw [← hq] at hdone hSl ⊢
    rw [← hq2] at hdone hS2
    obtain ⟨tt, htt⟩ : ∃ tt, tt = (i == 0) := ⟨_, rfl⟩
    rw [← htt]
    have hn2 : Hid (S2 = sOf l (i + 1)) := ⟨hq2⟩
    clear hq hq2 hx htt hc
    repeat' (simp -dsimp -implicitDefEqProofs [-xappend_list, *])
    refine xloop_for (fun k : Nat => [(0, .list t (Rec.row l) l.length), (8, .list tt (Rec.row S) i), (9, .int i), (10, .int k)]) (fun _ => st) (fun k => k ≤ i ∧ Hid (∀ j (h : j < S.length), j < k → S[j].at_ ≤ x.at_)) (fun k => i - k) 0 ⟨Nat.zero_le _, ⟨fun j _ h => absurd h (by omega)⟩⟩ (by simp) (.refl _) ?_
    rintro k ⟨hk, hI⟩
    have hmid : k < i → ∃ h : k < S.length, (S[k].at_ ≤ x.at_ → Hid (∀ j (h : j < S.length), j < k + 1 → S[j].at_ ≤ x.at_)) ∧ (¬ S[k].at_ ≤ x.at_ → Hid (S.take k ++ x :: S.drop k = S2)) := fun hki => ⟨by omega, fun h => ⟨fun j hj h2 => if e : j = k then by subst e; exact h else hI.out j hj (by omega)⟩, fun h => ⟨hdone.out k (by omega) hI.out fun _ => by omega⟩⟩
    have hend : k = i → Hid (S.take k ++ x :: S.drop k = S2) := fun h => ⟨hdone.out k (by omega) hI.out fun h2 => absurd h2 (by omega)⟩
    clear hI hdone
    by_cases hgo : ∃ h : k < S.length, S[k].at_ ≤ x.at_
    · obtain ⟨hkS, hle⟩ := hgo
      have hki : k < i := by omega
      obtain ⟨mm, m1, m2⟩ := hmid hki
      have hI2 := m1 hle
      have hw2 := wrap_succ (n := k) (by omega)
      have f2 := Rec.row_get2 S k hkS
      have F2 : ∀ h, (Rec.row S)[k * 7 + 2]'h = .int S[k].at_ := fun h => by rw [List.getElem?_eq_getElem h] at f2; exact Option.some.inj f2
      have hk7 : k * 7 + 2 < S.length * 7 ∧ k * 7 + 2 < i * 7 := by omega
      obtain ⟨y, hy⟩ : ∃ y, y = S[k] := ⟨_, rfl⟩
      rw [← hy] at f2 F2 hle
      clear hmid hend m1 m2 hy
      repeat' (simp -dsimp -implicitDefEqProofs [-xappend_list, *])
      exact Next.intro (k + 1) ⟨by omega, hI2⟩ (by omega) (by simp) (by repeat' (first | exact StLe.refl _ | (refine StLe_cons (by simp [*]; done) ?_) | (refine StLe_fresh (by simp [*]; done) ?_)))
    · have hfin : Hid (S.take k ++ x :: S.drop k = S2) := if h : k = i then hend h else by
        obtain ⟨h1, -, h3⟩ := hmid (by omega)
        exact h3 fun h4 => hgo ⟨h1, h4⟩
      have hcase : (k = i) ∨ ∃ y : Rec, k < i ∧ ¬ y.at_ ≤ x.at_ ∧ (Rec.row S)[k * 7 + 2]? = some (.int y.at_) ∧ ∀ h, (Rec.row S)[k * 7 + 2]'h = .int y.at_ := by
        by_cases h : k = i
        · exact .inl h
        · have hkS : k < S.length := by omega
          have f2 := Rec.row_get2 S k hkS
          exact .inr ⟨S[k], by omega, fun h => hgo ⟨hkS, h⟩, f2, fun h => by rw [List.getElem?_eq_getElem h] at f2; exact Option.some.inj f2⟩
      have htk := Rec.row_take S k
      have hdk := Rec.row_drop S k
      have hk7 : k * 7 ≤ i * 7 := by omega
      clear hmid hend hgo
      rcases hcase with hki | ⟨y, hki, hya, f2, F2⟩
      · subst hki
        repeat' (first 
         | (with_reducible refine DrawLate.intro [] ?_)
         | (simp -dsimp -implicitDefEqProofs [-xappend_list, *]))
        refine xappend_accQ Rec.row_len Rec.row_append (none : Option (Acc Rec)) trivial (S.take k) rfl (by simp; omega) (by simp; omega) fun o1 ho1 hl1 => ?_
        refine Cls_and (Cls_acc ho1 (Cls.self _ _)) ?_
        repeat' (simp -dsimp -implicitDefEqProofs [-xappend_list, *])
        refine xappend_accQ Rec.row_len Rec.row_append o1 ho1 [x] (by simp [row1]) (by simp) (by simp [hl1]; omega) fun o2 ho2 hl2 => ?_
        refine Cls_and (Cls_acc ho2 (Cls.self _ _)) ?_
        repeat' (simp -dsimp -implicitDefEqProofs [-xappend_list, *])
        refine xappend_accQ Rec.row_len Rec.row_append o2 ho2 (S.drop k) rfl (by simp; omega) (by simp [hl1, hl2]; omega) fun o3 ho3 hl3 => ?_
        refine Cls_and (Cls_acc ho3 (Cls.self _ _)) ?_
        repeat' (simp -dsimp -implicitDefEqProofs [-xappend_list, *])
        have e3 : accL o3 = S2 := by rw [hl3, hl2, hl1, ← hfin.out]; simp
        refine Next.view (k + 1) (by omega) (by omega) ?_
        rw [← hn2.out, ← e3]
        cases o3 with
        | none => exact absurd hS2.out (by rw [← e3]; simp)
        | some a =>
          refine View.frz (b := a.b) (o := .arr T.apiRecord a.R) ho3.2 (.refl _) ?_
          simp [accQ, accL, Frz.refl]
          exact Frz.acc ho3.1
      · have hk8 : k * 7 + 2 < i * 7 := by omega
        repeat' (first 
         | (with_reducible refine DrawLate.intro [] ?_)
         | (simp -dsimp -implicitDefEqProofs [-xappend_list, *]))
        refine xappend_accQ Rec.row_len Rec.row_append (none : Option (Acc Rec)) trivial (S.take k) rfl (by simp; omega) (by simp; omega) fun o1 ho1 hl1 => ?_
        refine Cls_and (Cls_acc ho1 (Cls.self _ _)) ?_
        repeat' (simp -dsimp -implicitDefEqProofs [-xappend_list, *])
        refine xappend_accQ Rec.row_len Rec.row_append o1 ho1 [x] (by simp [row1]) (by simp) (by simp [hl1]; omega) fun o2 ho2 hl2 => ?_
        refine Cls_and (Cls_acc ho2 (Cls.self _ _)) ?_
        repeat' (simp -dsimp -implicitDefEqProofs [-xappend_list, *])
        refine xappend_accQ Rec.row_len Rec.row_append o2 ho2 (S.drop k) rfl (by simp; omega) (by simp [hl1, hl2]; omega) fun o3 ho3 hl3 => ?_
        refine Cls_and (Cls_acc ho3 (Cls.self _ _)) ?_
        repeat' (simp -dsimp -implicitDefEqProofs [-xappend_list, *])
        have e3 : accL o3 = S2 := by rw [hl3, hl2, hl1, ← hfin.out]; simp
        refine Next.view (i + 1) (by omega) (by omega) ?_
        rw [← hn2.out, ← e3]
        cases o3 with
        | none => exact absurd hS2.out (by rw [← e3]; simp)
        | some a =>
          refine View.frz (b := a.b) (o := .arr T.apiRecord a.R) ho3.2 (.refl _) ?_
          simp [accQ, accL, Frz.refl]
          exact Frz.acc ho3.1
  obtain rfl : i = l.length := by omega
  clear hil hi
  obtain ⟨tt, htt⟩ : ∃ tt, tt = (l.length == 0) := ⟨_, rfl⟩
  have eS : sOf l l.length = srt SortRec.key l := by simp [sOf]
  rw [eS, ← htt]
  have hcS := hc.srt
  have hSl : (srt SortRec.key l).length = l.length := by simp
  obtain ⟨S, hS⟩ : ∃ S, S = srt SortRec.key l := ⟨_, rfl⟩
  rw [← hS] at hcS hSl ⊢
  clear hc htt eS hS
  repeat' (first 
   | (with_reducible refine Lit.imm ?_)
   | (simp -dsimp -implicitDefEqProofs [-xappend_list, *]))
  refine xloop_for (fun s : Nat × Option (Acc Rec) => [(8, .list tt (Rec.row S) l.length), (11, accQ s.2), (12, .int s.1)]) (fun s => accS T.apiRecord st s.2)
    (fun s => s.1 ≤ l.length ∧ accOk Rec.row 7 st s.2 ∧ Hid (accL s.2 = recs valR none (S.take s.1))) (fun s => l.length - s.1) (0, none) ⟨Nat.zero_le _, trivial, ⟨by simp [recs]⟩⟩ (by simp [accQ]) (.refl _) ?_
  rintro ⟨i, o⟩ ⟨hi, ho, hl⟩
  simp only at hi ho hl
  by_cases hil : i < l.length
  case neg =>
    obtain rfl : i = l.length := by omega
    have hl2 : Hid (accL o = recs valR none S) := ⟨by rw [hl.out, List.take_of_length_le (by omega)]⟩
    clear hl hcS
    repeat' (simp -dsimp -implicitDefEqProofs [-xappend_list, *])
    refine RetView.accQ2 rfl ho (.same ⟨by rw [hl2.out], rfl⟩)
  have hw := wrap_succ (n := i) (by omega)
  have hiS : i < S.length := by omega
  have si := Rec.row_sub S i hiS
  have ti := Rec.row_score hiS
  have hxi := List.getElem_mem hiS
  have hi7 : i * 7 < l.length * 7 ∧ i * 7 + 3 < l.length * 7 := by omega
  have hsn := recs_snoc (sc := valR) (S.take i) S[i]
  rw [← List.take_succ_eq_append_getElem hiS] at hsn
  have hlen : (accL o).length ≤ 4096 := by
    rw [hl.out]
    have := (recs_sublist (sc := valR) none (S.take i)).length_le
    rw [List.length_take] at this
    omega
  obtain ⟨x, hx⟩ : ∃ x, x = S[i] := ⟨_, rfl⟩
  rw [← hx] at si ti hxi hsn
  rw [← hl.out] at hsn
  have hsn2 : Hid _ := ⟨hsn⟩
  clear hx hl hsn
  repeat' (simp -dsimp -implicitDefEqProofs [-xappend_list, *])
  refine xloop_for (fun k : Nat => [(8, .list tt (Rec.row S) l.length), (11, accQ o), (12, .int i), (13, .bool ((S.take k).all fun a => decide (valR a < valR x))), (14, .int k)]) (fun _ => accS T.apiRecord st o)
    (fun k => k ≤ i) (fun k => i - k) 0 (Nat.zero_le _) (by simp) (.refl _) ?_
  intro k hk
  by_cases hki : k < i
  · have hkS : k < S.length := by omega
    have hw2 := wrap_succ (n := k) (by omega)
    have tk := Rec.row_score hkS
    have hxk := List.getElem_mem hkS
    have hk7 : k * 7 < l.length * 7 ∧ k * 7 + 3 < l.length * 7 := by omega
    have hall : Hid (((S.take (k + 1)).all fun a => decide (valR a < valR x)) = (((S.take k).all fun a => decide (valR a < valR x)) && decide (valR S[k] < valR x))) := ⟨by rw [List.take_succ_eq_append_getElem hkS, List.all_append]; simp⟩
    obtain ⟨y, hy⟩ : ∃ y, y = S[k] := ⟨_, rfl⟩
    rw [← hy] at tk hxk hall
    obtain ⟨c, hci, cc⟩ := hcS y hxk x hxi
    obtain ⟨g, hg⟩ : ∃ g, g = (S.take k).all fun a => decide (valR a < valR x) := ⟨_, rfl⟩
    rw [← hg] at hall ⊢
    obtain ⟨v, hv⟩ : ∃ v, v = decide (valR y < valR x) := ⟨_, rfl⟩
    have hcv : decide (c < 0) = v := by rw [hv]; exact decide_eq_decide.2 hci
    rw [← hv] at hall
    clear hy hcS hg hv hci
    cases g with
    | false =>
      clear hcv
      repeat' (first 
       | (with_reducible refine Rets.xcall (cc _) ?_)
       | (with_reducible refine DrawLate.intro [] ?_)
       | ((with_reducible refine and_keep ?_ fun hk => ?_); omega)
       | (simp -dsimp -implicitDefEqProofs [-xappend_list, *]))
      exact Next.intro (k + 1) (by omega) (by omega) (by simp [hall.out]) (by repeat' (first | exact StLe.refl _ | (refine StLe_cons (by simp [*]; done) ?_) | (refine StLe_fresh (by simp [*]; done) ?_)))
    | true =>
      cases v with
      | false =>
        have hc0 : ¬ c < 0 := of_decide_eq_false hcv
        clear hcv
        repeat' (first 
         | (with_reducible refine Rets.xcall (cc _) ?_)
         | (with_reducible refine DrawLate.intro [] ?_)
         | ((with_reducible refine and_keep ?_ fun hk => ?_); omega)
         | (simp -dsimp -implicitDefEqProofs [-xappend_list, *]))
        exact Next.intro (k + 1) (by omega) (by omega) (by simp [hall.out]) (by repeat' (first | exact StLe.refl _ | (refine StLe_cons (by simp [*]; done) ?_) | (refine StLe_fresh (by simp [*]; done) ?_)))
      | true =>
        have hc0 : c < 0 := of_decide_eq_true hcv
        clear hcv
        repeat' (first 
         | (with_reducible refine Rets.xcall (cc _) ?_)
         | (with_reducible refine DrawLate.intro [] ?_)
         | ((with_reducible refine and_keep ?_ fun hk => ?_); omega)
         | (simp -dsimp -implicitDefEqProofs [-xappend_list, *]))
        exact Next.intro (k + 1) (by omega) (by omega) (by simp [hall.out]) (by repeat' (first | exact StLe.refl _ | (refine StLe_cons (by simp [*]; done) ?_) | (refine StLe_fresh (by simp [*]; done) ?_)))
  obtain rfl : k = i := by omega
  obtain ⟨g, hg⟩ : ∃ g, g = (S.take k).all fun a => decide (valR a < valR x) := ⟨_, rfl⟩
  rw [← hg] at hsn2 ⊢
  clear hg hcS
  cases g with
  | false =>
    have e : Hid (accL o = recs valR none (S.take (k + 1))) := ⟨by rw [hsn2.out, if_neg (by simp)]⟩
    clear hsn2
    repeat' (simp -dsimp -implicitDefEqProofs [-xappend_list, *])
    exact Next.intro (k + 1, o) ⟨by simp only; omega, ho, e⟩ (by simp only; omega) (by simp) (by repeat' (first | exact StLe.refl _ | (refine StLe_cons (by simp [*]; done) ?_) | (refine StLe_fresh (by simp [*]; done) ?_)))
  | true =>
    have e : Hid (recs valR none (S.take (k + 1)) = accL o ++ [x]) := ⟨by rw [hsn2.out, if_pos rfl]⟩
    clear hsn2
    repeat' (first 
     | (with_reducible refine Lit.imm ?_)
     | (simp -dsimp -implicitDefEqProofs [-xappend_list, *]))
    refine xappend_accQ Rec.row_len Rec.row_append o ho [x] (by simp [row1]) rfl (by omega) fun o2 ho2 hl3 => ?_
    have hl4 : Hid (accL o2 = recs valR none (S.take (k + 1))) := ⟨by rw [hl3, e.out]⟩
    clear hl3 ho hlen e
    repeat' (simp -dsimp -implicitDefEqProofs [-xappend_list, *])
    exact Next.intro (k + 1, o2) ⟨by simp only; omega, ho2, hl4⟩ (by simp only; omega) (by simp) (by repeat' (first | exact StLe.refl _ | (refine StLe_cons (by simp [*]; done) ?_) | (refine StLe_fresh (by simp [*]; done) ?_)))
end Go.Proofs.Ytgjgcflgjpigpaa
