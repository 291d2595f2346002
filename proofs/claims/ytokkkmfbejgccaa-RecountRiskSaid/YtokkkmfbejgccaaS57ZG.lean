/- Running: plain facts. -/
import Derived.Test.YtokkkmfbejgccaaS57ZF
namespace Go.Proofs.Ytokkkmfbejgccaa
open Go.Pv
set_option maxRecDepth 100000
set_option maxHeartbeats 4000000
theorem Rc.ok_iff {r : Rc} : r.ok = true ↔ r.E = 0 ∧ 0 ≤ r.a ∧ ((r.s = 1 ∧ r.a = r.K) ∨ ((r.s = 0 ∨ r.s = 2) ∧ r.a < r.K)) := by
  unfold Rc.ok
  simp only [Bool.and_eq_true, Bool.or_eq_true, decide_eq_true_eq, and_assoc]
theorem look_K (r : Rc) (b : Bool) (K : Int) : (r.look b K).K = r.K := by cases b <;> rfl
theorem look_E (r : Rc) (b : Bool) (K : Int) : (r.look b K).E = r.E := by cases b <;> rfl
theorem look_n (r : Rc) (b : Bool) (K : Int) : (r.look b K).n = r.n := by cases b <;> rfl
theorem look_few {r : Rc} (h : r.Few) (b : Bool) (K : Int) : (r.look b K).Few := by cases b <;> exact ⟨h.n, h.l1, h.l2⟩
theorem look_ok {r : Rc} (h : r.ok = true) (hs : r.s = 0) (b : Bool) : (r.look b r.K).ok = true := by
  have h := Rc.ok_iff.1 h
  rw [Rc.ok_iff, look_E, look_K]
  cases b with
  | false =>
    refine ⟨h.1, h.2.1, .inr ⟨.inr rfl, ?_⟩⟩
    show r.a < r.K
    omega
  | true =>
    have h1 : r.a < r.K := by omega
    have h2 := h.2.1
    refine ⟨h.1, ?_, ?_⟩
    · show 0 ≤ r.a + 1
      omega
    · show ((if r.a + 1 = r.K then (1 : Int) else r.s) = 1 ∧ r.a + 1 = r.K) ∨ ((if r.a + 1 = r.K then (1 : Int) else r.s) = 0 ∨ _) ∧ r.a + 1 < r.K
      split
      · exact .inl ⟨rfl, by assumption⟩
      · exact .inr ⟨.inl hs, by omega⟩
/-- What running keeps. -/
theorem runL_keep {r : Rc} : ∀ (l : List Bool) (q : Rc), q.ok = true → q.K = r.K → q.n = r.n → q.Few → (runL r.K l q).1.ok = true ∧ (runL r.K l q).1.K = r.K ∧ (runL r.K l q).1.n = r.n ∧ (runL r.K l q).1.Few
  | [], q, h1, h2, h3, h4 => ⟨h1, h2, h3, h4⟩
  | b :: l, q, h1, h2, h3, h4 => by
    unfold runL
    split
    · rename_i hs
      exact runL_keep l _ (by rw [← h2]; exact look_ok h1 hs b) (by rw [look_K]; exact h2) (by rw [look_n]; exact h3) (look_few h4 _ _)
    · exact ⟨h1, h2, h3, h4⟩
theorem runL_stop {K : Int} {q : Rc} (h : q.s ≠ 0) : ∀ l, runL K l q = (q, 0)
  | [] => rfl
  | b :: l => by unfold runL; rw [if_neg h]
theorem runL_append {K : Int} : ∀ (l m : List Bool) (q : Rc), (runL K (l ++ m) q).1 = (runL K m (runL K l q).1).1
  | [], m, q => rfl
  | b :: l, m, q => by
    by_cases h : q.s = 0
    · simp only [List.cons_append, runL, if_pos h]
      exact runL_append l m _
    · rw [runL_stop h, runL_stop h, runL_stop h]
theorem runL_count {K : Int} : ∀ (l : List Bool) (q : Rc), (runL K l q).2 ≤ l.length ∧ ((runL K l q).1.s = 0 → (runL K l q).2 = l.length)
  | [], q => ⟨Nat.le_refl _, fun _ => rfl⟩
  | b :: l, q => by
    by_cases h : q.s = 0
    · have := runL_count (K := K) l (q.look b K)
      simp only [runL, if_pos h, List.length_cons]
      exact ⟨by omega, fun h2 => by have := this.2 h2; omega⟩
    · rw [runL_stop h]
      exact ⟨Nat.zero_le _, fun h2 => absurd h2 h⟩
theorem orderOk_drop {n : Int} {O : List Int} (i : Nat) (h : orderOk n O = true) : orderOk n (O.drop i) = true := by
  unfold orderOk at h ⊢
  simp only [Bool.and_eq_true, decide_eq_true_eq, List.all_eq_true] at h ⊢
  exact ⟨fun x hx => h.1 x (List.mem_of_mem_drop hx), h.2.sublist (List.drop_sublist _ _)⟩
/-- Run, if it succeeds. -/
theorem runR_ok {r : Rc} {O : List Int} {A : List Bool} (h : r.ok = true) (hA : (A.length : Int) = r.n) (hO : orderOk r.n O = true) : runR r O A = ((runL r.K (seqA O A) r).1, ((runL r.K (seqA O A) r).2 : Int), 0) := by
  simp [runR, h, hA, hO]
theorem runR_cases (r : Rc) (O : List Int) (A : List Bool) : (r.ok = true ∧ (A.length : Int) = r.n ∧ orderOk r.n O = true) ∨ (runR r O A = (Rc.zero, 0, 570) ∨ runR r O A = (Rc.zero, 0, 1)) := by
  unfold runR
  split
  · exact .inr (.inl rfl)
  · rename_i h1
    split
    · exact .inr (.inr rfl)
    · rename_i h2
      split
      · exact .inr (.inr rfl)
      · rename_i h3
        exact .inl ⟨by simpa using h1, by omega, by simpa using h3⟩
theorem runR_split {r : Rc} {O : List Int} {A : List Bool} (hr : r.Few) (h : r.ok = true) (hA : (A.length : Int) = r.n) (hO : orderOk r.n O = true) (p : Nat) :
    (runR r (O.take p) A).2.2 = 0 ∧ (runR (runR r (O.take p) A).1 (O.drop p) A).2.2 = 0 ∧ (runR (runR r (O.take p) A).1 (O.drop p) A).1 = (runR r O A).1 := by
  have e1 := runR_ok h hA (orderOk_take p hO)
  obtain ⟨k1, k2, k3, k4⟩ := runL_keep (r := r) (seqA (O.take p) A) r h rfl rfl hr
  rw [e1]
  have e2 := runR_ok (r := (runL r.K (seqA (O.take p) A) r).1) (O := O.drop p) (A := A) k1 (by rw [k3]; exact hA) (by rw [k3]; exact orderOk_drop p hO)
  refine ⟨rfl, ?_, ?_⟩
  · rw [e2]
  · rw [e2, k2, runR_ok h hA hO]
    show (runL r.K (seqA (O.drop p) A) (runL r.K (seqA (O.take p) A) r).1).1 = (runL r.K (seqA O A) r).1
    rw [← runL_append]
    unfold seqA
    rw [← List.map_append, List.take_append_drop]
end Go.Proofs.Ytokkkmfbejgccaa
/- RecountSteps and its kin: small facts. -/
namespace Go.Proofs.Ytokkkmfbejgccaa
open Go.Pv
set_option maxRecDepth 100000
set_option maxHeartbeats 16000000
theorem curL_keep {r : Rc} {l : List Bool} (h : r.ok = true) (hr : r.Few) : ∀ i, i ≤ l.length → (∀ j, j < i → (curL r.K l r j).s = 0) → (curL r.K l r i).ok = true ∧ (curL r.K l r i).K = r.K ∧ (curL r.K l r i).n = r.n ∧ (curL r.K l r i).Few
  | 0, _, _ => ⟨h, rfl, rfl, hr⟩
  | i + 1, hi, hs => by
    obtain ⟨k1, k2, k3, k4⟩ := curL_keep h hr i (by omega) (fun j hj => hs j (by omega))
    rw [curL_succ (by omega)]
    refine ⟨?_, by rw [look_K]; exact k2, by rw [look_n]; exact k3, look_few k4 _ _⟩
    have := look_ok k1 (hs i (by omega)) (l[i]'(by omega))
    rw [k2] at this
    exact this
theorem few57_few {r : Rc} (h : few57 r.n r.L1 r.L2 = true) : r.Few := by
  unfold few57 fewB at h
  simp only [Bool.and_eq_true, Bool.or_eq_true, decide_eq_true_eq] at h
  refine ⟨by omega, ?_, ?_⟩ <;> unfold Few3 <;> omega
theorem enc_loose (r : Rc) (t1 t2 : Bool) : PLe (.agg (r.enc t1 t2)) (.agg (r.enc false false)) := PLe.aggs ⟨.refl _, .refl _, .refl _, PLe.loose, .refl _, PLe.loose, .refl _, .refl _, trivial⟩
theorem same57_zero (st : Store) : Rets P F.podiumref57_Same [.agg (Rc.zero.enc false false), .agg [.int 0, .int 0, .bool false, .nil, .bool false, .nil, .int 0, .int 0]] st (.bool true) := by
  have := same57_spec Rc.zero Rc.zero few_0.len false false true true st
  rw [decide_eq_true rfl] at this
  exact Rets.args (qs := [.agg (Rc.zero.enc false false), .agg (Rc.zero.enc true true)]) ⟨.refl _, PLe.aggs ⟨.refl _, .refl _, .refl _, PLe.nil, .refl _, PLe.nil, .refl _, .refl _, trivial⟩, trivial⟩ this
end Go.Proofs.Ytokkkmfbejgccaa
/- Running: which sheets were seen. -/
namespace Go.Proofs.Ytokkkmfbejgccaa
open Go.Pv
set_option maxRecDepth 100000
set_option maxHeartbeats 4000000
theorem runL_zero {K : Int} : ∀ {l : List Bool} {q : Rc}, (runL K l q).2 = 0 → (runL K l q).1 = q
  | [], q, _ => rfl
  | b :: l, q, h => by
    by_cases hs : q.s = 0
    · simp only [runL, if_pos hs] at h; omega
    · rw [runL_stop hs]
theorem look_true_s (q : Rc) (K : Int) (h : q.s = 0) : (q.look true K).s = 0 ∨ (q.look true K).s = 1 := by
  show (if q.a + 1 = K then (1 : Int) else q.s) = 0 ∨ (if q.a + 1 = K then (1 : Int) else q.s) = 1
  split
  · exact .inr rfl
  · exact .inl h
/-- The sheets that were looked at agree, but for the last one of a recount that must be done in full. -/
theorem runL_seen {K : Int} : ∀ (l : List Bool) (q : Rc), (q.s = 0 ∨ q.s = 1) → ∀ i, i < (runL K l q).2 → l[i]? = some (decide ((runL K l q).1.s ≠ 2) || decide (i + 1 < (runL K l q).2))
  | [], q, _, i, h => by simp [runL] at h
  | b :: l, q, hq, i, h => by
    by_cases hs : q.s = 0
    · simp only [runL, if_pos hs] at h ⊢
      cases b with
      | false =>
        have h2 : (q.look false K).s ≠ 0 := by show (2 : Int) ≠ 0; decide
        rw [runL_stop h2] at h ⊢
        have : i = 0 := by simp only at h; omega
        subst this
        have h3 : (q.look false K).s = 2 := rfl
        simp [h3]
      | true =>
        cases i with
        | zero =>
          by_cases hm : (runL K l (q.look true K)).2 = 0
          · rw [runL_zero hm]
            rcases look_true_s q K hs with e | e <;> simp [e]
          · have : 0 + 1 < (runL K l (q.look true K)).2 + 1 := by omega
            simp [this]
        | succ i =>
          have := runL_seen (K := K) l (q.look true K) (look_true_s q K hs) i (by omega)
          rw [List.getElem?_cons_succ, this]
          simp
    · rw [runL_stop hs] at h
      simp at h
/-- The sheets after the last look do not matter. -/
theorem runL_same {K : Int} : ∀ (l m : List Bool) (q : Rc), l.length = m.length → (∀ i, i < (runL K l q).2 → l[i]? = m[i]?) → runL K m q = runL K l q
  | [], [], q, _, _ => rfl
  | [], _ :: _, q, h, _ => by simp at h
  | _ :: _, [], q, h, _ => by simp at h
  | b :: l, c :: m, q, h, k => by
    by_cases hs : q.s = 0
    · have k0 := k 0 (by simp only [runL, if_pos hs]; omega)
      have e : b = c := by simpa using k0
      subst e
      have ih := runL_same (K := K) l m (q.look b K) (by simpa using h) (fun i hi => by
        have := k (i + 1) (by simp only [runL, if_pos hs]; omega)
        simpa using this)
      simp only [runL, if_pos hs, ih]
    · rw [runL_stop hs, runL_stop hs]
theorem startR_ok {n w : Int} {s1 s2 : Bool} {L1 L2 : List Int} (h : needE n w s1 L1 s2 L2 = 0) : startR n w s1 L1 s2 L2 = ⟨n, w, s1, L1, s2, L2, 0, if needK n w s1 L1 s2 L2 = 0 then 1 else 0⟩ ∧ (startR n w s1 L1 s2 L2).ok = true ∧ ((startR n w s1 L1 s2 L2).s = 0 ∨ (startR n w s1 L1 s2 L2).s = 1) := by
  have e : startR n w s1 L1 s2 L2 = ⟨n, w, s1, L1, s2, L2, 0, if needK n w s1 L1 s2 L2 = 0 then 1 else 0⟩ := by unfold startR; rw [if_pos h]
  have hk : 0 ≤ needK n w s1 L1 s2 L2 := by
    unfold needK
    split <;> omega
  refine ⟨e, ?_, ?_⟩
  · rw [e, Rc.ok_iff]
    refine ⟨h, Int.le_refl _, ?_⟩
    show ((if needK n w s1 L1 s2 L2 = 0 then (1 : Int) else 0) = 1 ∧ (0 : Int) = needK n w s1 L1 s2 L2) ∨ ((if needK n w s1 L1 s2 L2 = 0 then (1 : Int) else 0) = 0 ∨ (if needK n w s1 L1 s2 L2 = 0 then (1 : Int) else 0) = 2) ∧ 0 < needK n w s1 L1 s2 L2
    split <;> omega
  · rw [e]
    show (if needK n w s1 L1 s2 L2 = 0 then (1 : Int) else 0) = 0 ∨ (if needK n w s1 L1 s2 L2 = 0 then (1 : Int) else 0) = 1
    split
    · exact .inr rfl
    · exact .inl rfl
end Go.Proofs.Ytokkkmfbejgccaa
