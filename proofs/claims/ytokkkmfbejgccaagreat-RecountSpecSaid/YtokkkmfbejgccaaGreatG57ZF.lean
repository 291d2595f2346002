/- The statements' own examples: sane. -/
import Derived.Test.YtokkkmfbejgccaaGreatG57ZE
namespace Go.Proofs.YtokkkmfbejgccaaGreat
open Go.Pv
set_option maxRecDepth 100000
set_option maxHeartbeats 16000000
def r0 : Rc := ⟨10, 2, false, [1], false, [20], 0, 0⟩
theorem k_start : startR 10 2 false [1] false [20] = r0 := by decide +kernel
theorem e_start : needE 10 2 false [1] false [20] = 0 := by decide +kernel
theorem e_start0 : needE 10 0 false [1] false [20] = 560 := by decide +kernel
theorem k_start0 : startR 10 0 false [1] false [20] = Rc.zero := by decide +kernel
theorem k_start1 : startR 10 2 false [1] false [1] = ⟨10, 2, false, [1], false, [1], 0, 1⟩ := by decide +kernel
theorem e_start1 : needE 10 2 false [1] false [1] = 0 := by decide +kernel
theorem k_look0 (g : Bool) : lookR Rc.zero g = (Rc.zero, 570) := by cases g <;> decide +kernel
theorem k_ok0 : Rc.zero.ok = false := by decide +kernel
theorem k_ok : r0.ok = true := by decide +kernel
theorem k_look : lookR r0 true = (⟨10, 2, false, [1], false, [20], 1, 0⟩, 0) := by decide +kernel
theorem k_lookx : lookR ⟨10, 2, false, [1], false, [20], 8, 1⟩ true = (Rc.zero, 570) := by decide +kernel
theorem k_run1 : runR r0 [9, 8, 7, 6, 5, 4, 3, 2, 1, 0] [true, true, true, true, true, true, true, true, true, true] = (⟨10, 2, false, [1], false, [20], 8, 1⟩, 8, 0) := by decide +kernel
theorem k_run2 : runR r0 [9, 8, 7, 6, 5, 4, 3, 2, 1, 0] [true, true, true, true, true, true, true, true, true, false] = (⟨10, 2, false, [1], false, [20], 0, 2⟩, 1, 0) := by decide +kernel
theorem k_run3 : runR r0 [0, 0] [true, true, true, true, true, true, true, true, true, true] = (Rc.zero, 0, 1) := by decide +kernel
theorem d1 : digs 1 = [1] := by decide +kernel
theorem d20 : digs 20 = [20] := by decide +kernel
theorem m20 : mkRat 1 20 = ⟨1, 20, by decide, by decide⟩ := by decide +kernel
theorem m1 : mkRat 1 1 = 1 := by decide +kernel
def rv (n w : Int) (l1 l2 : Int) (a k : Int) : List PV := [.int n, .int w, .bool false, .list false [.int l1] 1, .bool false, .list false [.int l2] 1, .int a, .int k]
theorem few_r0 (a k : Int) : (⟨10, 2, false, [1], false, [20], a, k⟩ : Rc).Few := ⟨.inl (show (10 : Int) ≤ 40 by decide), show Few3 [1] by unfold Few3; decide, show Few3 [20] by unfold Few3; decide⟩
theorem few_0 : Rc.zero.Few := ⟨.inl (by decide), by unfold Few3; decide, by unfold Few3; decide⟩
theorem s_of20 (st : Store) : Rets P F.podiumlaw57_of [.int 1, .int 20] st (.agg [.bool false, .list false [.int 1] 1, .bool false, .list false [.int 20] 1]) := by
  have := of_spec 1 20 (by decide) (by decide) (by decide) (by decide) st
  rw [m20] at this
  simp [rC, zC, d1, d20] at this
  exact this
theorem s_of1 (st : Store) : Rets P F.podiumlaw57_of [.int 1, .int 1] st (.agg [.bool false, .list false [.int 1] 1, .bool false, .list false [.int 1] 1]) := by
  have := of_spec 1 1 (by decide) (by decide) (by decide) (by decide) st
  rw [show mkRat (1 : Int) ((1 : Nat)) = 1 from m1] at this
  simp [rC, zC, d1] at this
  exact this
theorem s_start (st : Store) : Rets P F.recount_Start [.int 10, .int 2, .agg [.bool false, .list false [.int 1] 1, .bool false, .list false [.int 20] 1]] st (.tuple [.agg (rv 10 2 1 20 0 0), .int 0]) := by
  have := start_spec 10 2 false false false false [1] [20] (.inl (by decide)) (by unfold Few3; decide) (by unfold Few3; decide) st
  rw [k_start, e_start] at this
  exact this
theorem s_start1 (st : Store) : Rets P F.recount_Start [.int 10, .int 2, .agg [.bool false, .list false [.int 1] 1, .bool false, .list false [.int 1] 1]] st (.tuple [.agg (rv 10 2 1 1 0 1), .int 0]) := by
  have := start_spec 10 2 false false false false [1] [1] (.inl (by decide)) (by unfold Few3; decide) (by unfold Few3; decide) st
  rw [k_start1, e_start1] at this
  exact this
theorem s_start0 (st : Store) : Rets P F.recount_Start [.int 10, .int 0, .agg [.bool false, .list false [.int 1] 1, .bool false, .list false [.int 20] 1]] st (.tuple [.agg (Rc.zero.enc false false), .int 560]) := by
  have := start_spec 10 0 false false false false [1] [20] (.inl (by decide)) (by unfold Few3; decide) (by unfold Few3; decide) st
  rw [k_start0, e_start0] at this
  exact this
theorem s_look0 (g : Bool) (st : Store) : Rets P F.recount_Look [.agg [.int 0, .int 0, .bool false, .nil, .bool false, .nil, .int 0, .int 0], .bool g] st (.tuple [.agg (Rc.zero.enc false false), .int 570]) := by
  have := look_spec Rc.zero few_0 (by decide +kernel) true true g st
  rw [k_look0] at this
  exact Rets.args (qs := [.agg (Rc.zero.enc true true), .bool g]) ⟨PLe.aggs ⟨.refl _, .refl _, .refl _, PLe.nil, .refl _, PLe.nil, .refl _, .refl _, trivial⟩, .refl _, trivial⟩ this
theorem s_check0 (st : Store) : Rets P F.recount_Check [.agg [.int 0, .int 0, .bool false, .nil, .bool false, .nil, .int 0, .int 0]] st (.int 570) := by
  have := check_spec Rc.zero few_0 true true st
  rw [k_ok0] at this
  exact Rets.args (qs := [.agg (Rc.zero.enc true true)]) ⟨PLe.aggs ⟨.refl _, .refl _, .refl _, PLe.nil, .refl _, PLe.nil, .refl _, .refl _, trivial⟩, trivial⟩ this
theorem s_check (st : Store) : Rets P F.recount_Check [.agg (rv 10 2 1 20 0 0)] st (.int 0) := by
  have := check_spec r0 (few_r0 _ _) false false st
  rw [k_ok] at this
  exact this
theorem s_look (st : Store) : Rets P F.recount_Look [.agg (rv 10 2 1 20 0 0), .bool true] st (.tuple [.agg (rv 10 2 1 20 1 0), .int 0]) := by
  have := look_spec r0 (few_r0 _ _) (by decide +kernel) false false true st
  rw [k_look] at this
  exact this
theorem s_lookx (st : Store) : Rets P F.recount_Look [.agg (rv 10 2 1 20 8 1), .bool true] st (.tuple [.agg (Rc.zero.enc false false), .int 570]) := by
  have := look_spec ⟨10, 2, false, [1], false, [20], 8, 1⟩ (few_r0 _ _) (by decide +kernel) false false true st
  rw [k_lookx] at this
  exact this
theorem s_run1 (t u : Bool) (st : Store) : Rets P F.recount_Run [.agg (rv 10 2 1 20 0 0), .list t [.int 9, .int 8, .int 7, .int 6, .int 5, .int 4, .int 3, .int 2, .int 1, .int 0] 10, .list u [.bool true, .bool true, .bool true, .bool true, .bool true, .bool true, .bool true, .bool true, .bool true, .bool true] 10] st (.tuple [.agg (rv 10 2 1 20 8 1), .int 8, .int 0]) := by
  have := run_spec r0 (few_r0 _ _) false false t u [9, 8, 7, 6, 5, 4, 3, 2, 1, 0] [true, true, true, true, true, true, true, true, true, true] (by decide) st
  rw [k_run1] at this
  exact this
theorem s_run2 (t u : Bool) (st : Store) : Rets P F.recount_Run [.agg (rv 10 2 1 20 0 0), .list t [.int 9, .int 8, .int 7, .int 6, .int 5, .int 4, .int 3, .int 2, .int 1, .int 0] 10, .list u [.bool true, .bool true, .bool true, .bool true, .bool true, .bool true, .bool true, .bool true, .bool true, .bool false] 10] st (.tuple [.agg (rv 10 2 1 20 0 2), .int 1, .int 0]) := by
  have := run_spec r0 (few_r0 _ _) false false t u [9, 8, 7, 6, 5, 4, 3, 2, 1, 0] [true, true, true, true, true, true, true, true, true, false] (by decide) st
  rw [k_run2] at this
  exact this
theorem s_run3 (t u : Bool) (st : Store) : Rets P F.recount_Run [.agg (rv 10 2 1 20 0 0), .list t [.int 0, .int 0] 2, .list u [.bool true, .bool true, .bool true, .bool true, .bool true, .bool true, .bool true, .bool true, .bool true, .bool true] 10] st (.tuple [.agg (Rc.zero.enc false false), .int 0, .int 1]) := by
  have := run_spec r0 (few_r0 _ _) false false t u [0, 0] [true, true, true, true, true, true, true, true, true, true] (by decide) st
  rw [k_run3] at this
  exact this
theorem sane_spec (st : Store) : Rets P F.podiumlaw57_sane [] st (.bool true) := by
  have f := fun n w l1 l2 a k => cells_sub (show (rv n w l1 l2 a k).length = 8 from rfl)
  have fz := cells_sub (show (Rc.zero.enc false false).length = 8 from rfl)
  have lz : (Rc.zero.enc false false).length = 8 := rfl
  have h0 : ∀ n w l1 l2 a k (h : 0 < (rv n w l1 l2 a k).length), (rv n w l1 l2 a k)[0]'h = .int n := fun n w l1 l2 a k h => rfl
  have h1 : ∀ n w l1 l2 a k (h : 1 < (rv n w l1 l2 a k).length), (rv n w l1 l2 a k)[1]'h = .int w := fun n w l1 l2 a k h => rfl
  have h6 : ∀ n w l1 l2 a k (h : 6 < (rv n w l1 l2 a k).length), (rv n w l1 l2 a k)[6]'h = .int a := fun n w l1 l2 a k h => rfl
  have h7 : ∀ n w l1 l2 a k (h : 7 < (rv n w l1 l2 a k).length), (rv n w l1 l2 a k)[7]'h = .int k := fun n w l1 l2 a k h => rfl
  have lE : ∀ n w l1 l2 a k, (rv n w l1 l2 a k).length = 8 := fun n w l1 l2 a k => rfl
  have fa := fun n w l1 l2 a k => cells_all (c := [.int 0, .int 0, .bool false, .nil, .bool false, .nil, .int 0, .int 0]) (V := rv n w l1 l2 a k) rfl
  have fb := cells_all (c := [.int 0, .int 0, .bool false, .nil, .bool false, .nil, .int 0, .int 0]) (V := Rc.zero.enc false false) rfl
  refine H.podiumlaw57_sane.pure hmix rfl rfl ?_
  repeat' (first 
   | (with_reducible refine Fresh.intro fun b hb => ?_) <;> (try simp -dsimp -implicitDefEqProofs [*] at hb)
   | (with_reducible refine Rets.xcall (s_of20 _) ?_)
   | (with_reducible refine Rets.xcall (s_of1 _) ?_)
   | (with_reducible refine Rets.xcall (s_start _) ?_)
   | (with_reducible refine Rets.xcall (s_start0 _) ?_)
   | (with_reducible refine Rets.xcall (s_start1 _) ?_)
   | (with_reducible refine Rets.xcall (s_look0 _ _) ?_)
   | (with_reducible refine Rets.xcall (s_look _) ?_)
   | (with_reducible refine Rets.xcall (s_lookx _) ?_)
   | (with_reducible refine Rets.xcall (s_check _) ?_)
   | (with_reducible refine Rets.xcall (s_check0 _) ?_)
   | (with_reducible refine Rets.xcall (s_run1 _ _ _) ?_)
   | (with_reducible refine Rets.xcall (s_run2 _ _ _) ?_)
   | (with_reducible refine Rets.xcall (s_run3 _ _ _) ?_)
   | (with_reducible refine Lit.imm ?_)
   | (simp -dsimp -implicitDefEqProofs [*]))
end Go.Proofs.YtokkkmfbejgccaaGreat
/- Running: plain facts. -/
namespace Go.Proofs.YtokkkmfbejgccaaGreat
open Go.Pv
set_option maxRecDepth 100000
set_option maxHeartbeats 4000000
theorem Rc.ok_iff {r : Rc} : r.ok = true ↔ r.E = 0 ∧ 0 ≤ r.a ∧ ((r.s = 1 ∧ r.a = r.K) ∨ ((r.s = 0 ∨ r.s = 2) ∧ r.a < r.K)) := by
  unfold Rc.ok
  simp only [Bool.and_eq_true, Bool.or_eq_true, decide_eq_true_eq, and_assoc]
theorem look_K (r : Rc) (b : Bool) (K : Int) : (r.look b K).K = r.K := by cases b <;> rfl
theorem look_E (r : Rc) (b : Bool) (K : Int) : (r.look b K).E = r.E := by cases b <;> rfl
theorem look_n (r : Rc) (b : Bool) (K : Int) : (r.look b K).n = r.n := by cases b <;> rfl
theorem look_few {r : Rc} (h : r.Few) (b : Bool) (K : Int) : (r.look b K).Few := by cases b <;> exact ⟨h.n, h.l1, h.l2⟩
theorem look_ok {r : Rc} (h : r.ok = true) (hs : r.s = 0) (b : Bool) : (r.look b r.K).ok = true := by
  have h := Rc.ok_iff.1 h
  rw [Rc.ok_iff, look_E, look_K]
  cases b with
  | false =>
    refine ⟨h.1, h.2.1, .inr ⟨.inr rfl, ?_⟩⟩
    show r.a < r.K
    omega
  | true =>
    have h1 : r.a < r.K := by omega
    have h2 := h.2.1
    refine ⟨h.1, ?_, ?_⟩
    · show 0 ≤ r.a + 1
      omega
    · show ((if r.a + 1 = r.K then (1 : Int) else r.s) = 1 ∧ r.a + 1 = r.K) ∨ ((if r.a + 1 = r.K then (1 : Int) else r.s) = 0 ∨ _) ∧ r.a + 1 < r.K
      split
      · exact .inl ⟨rfl, by assumption⟩
      · exact .inr ⟨.inl hs, by omega⟩
/-- What running keeps. -/
theorem runL_keep {r : Rc} : ∀ (l : List Bool) (q : Rc), q.ok = true → q.K = r.K → q.n = r.n → q.Few → (runL r.K l q).1.ok = true ∧ (runL r.K l q).1.K = r.K ∧ (runL r.K l q).1.n = r.n ∧ (runL r.K l q).1.Few
  | [], q, h1, h2, h3, h4 => ⟨h1, h2, h3, h4⟩
  | b :: l, q, h1, h2, h3, h4 => by
    unfold runL
    split
    · rename_i hs
      exact runL_keep l _ (by rw [← h2]; exact look_ok h1 hs b) (by rw [look_K]; exact h2) (by rw [look_n]; exact h3) (look_few h4 _ _)
    · exact ⟨h1, h2, h3, h4⟩
theorem runL_stop {K : Int} {q : Rc} (h : q.s ≠ 0) : ∀ l, runL K l q = (q, 0)
  | [] => rfl
  | b :: l => by unfold runL; rw [if_neg h]
theorem runL_append {K : Int} : ∀ (l m : List Bool) (q : Rc), (runL K (l ++ m) q).1 = (runL K m (runL K l q).1).1
  | [], m, q => rfl
  | b :: l, m, q => by
    by_cases h : q.s = 0
    · simp only [List.cons_append, runL, if_pos h]
      exact runL_append l m _
    · rw [runL_stop h, runL_stop h, runL_stop h]
theorem runL_count {K : Int} : ∀ (l : List Bool) (q : Rc), (runL K l q).2 ≤ l.length ∧ ((runL K l q).1.s = 0 → (runL K l q).2 = l.length)
  | [], q => ⟨Nat.le_refl _, fun _ => rfl⟩
  | b :: l, q => by
    by_cases h : q.s = 0
    · have := runL_count (K := K) l (q.look b K)
      simp only [runL, if_pos h, List.length_cons]
      exact ⟨by omega, fun h2 => by have := this.2 h2; omega⟩
    · rw [runL_stop h]
      exact ⟨Nat.zero_le _, fun h2 => absurd h2 h⟩
theorem orderOk_drop {n : Int} {O : List Int} (i : Nat) (h : orderOk n O = true) : orderOk n (O.drop i) = true := by
  unfold orderOk at h ⊢
  simp only [Bool.and_eq_true, decide_eq_true_eq, List.all_eq_true] at h ⊢
  exact ⟨fun x hx => h.1 x (List.mem_of_mem_drop hx), h.2.sublist (List.drop_sublist _ _)⟩
/-- Run, if it succeeds. -/
theorem runR_ok {r : Rc} {O : List Int} {A : List Bool} (h : r.ok = true) (hA : (A.length : Int) = r.n) (hO : orderOk r.n O = true) : runR r O A = ((runL r.K (seqA O A) r).1, ((runL r.K (seqA O A) r).2 : Int), 0) := by
  simp [runR, h, hA, hO]
theorem runR_cases (r : Rc) (O : List Int) (A : List Bool) : (r.ok = true ∧ (A.length : Int) = r.n ∧ orderOk r.n O = true) ∨ (runR r O A = (Rc.zero, 0, 570) ∨ runR r O A = (Rc.zero, 0, 1)) := by
  unfold runR
  split
  · exact .inr (.inl rfl)
  · rename_i h1
    split
    · exact .inr (.inr rfl)
    · rename_i h2
      split
      · exact .inr (.inr rfl)
      · rename_i h3
        exact .inl ⟨by simpa using h1, by omega, by simpa using h3⟩
theorem runR_split {r : Rc} {O : List Int} {A : List Bool} (hr : r.Few) (h : r.ok = true) (hA : (A.length : Int) = r.n) (hO : orderOk r.n O = true) (p : Nat) :
    (runR r (O.take p) A).2.2 = 0 ∧ (runR (runR r (O.take p) A).1 (O.drop p) A).2.2 = 0 ∧ (runR (runR r (O.take p) A).1 (O.drop p) A).1 = (runR r O A).1 := by
  have e1 := runR_ok h hA (orderOk_take p hO)
  obtain ⟨k1, k2, k3, k4⟩ := runL_keep (r := r) (seqA (O.take p) A) r h rfl rfl hr
  rw [e1]
  have e2 := runR_ok (r := (runL r.K (seqA (O.take p) A) r).1) (O := O.drop p) (A := A) k1 (by rw [k3]; exact hA) (by rw [k3]; exact orderOk_drop p hO)
  refine ⟨rfl, ?_, ?_⟩
  · rw [e2]
  · rw [e2, k2, runR_ok h hA hO]
    show (runL r.K (seqA (O.drop p) A) (runL r.K (seqA (O.take p) A) r).1).1 = (runL r.K (seqA O A) r).1
    rw [← runL_append]
    unfold seqA
    rw [← List.map_append, List.take_append_drop]
end Go.Proofs.YtokkkmfbejgccaaGreat
/- RecountSteps and its kin: small facts. -/
namespace Go.Proofs.YtokkkmfbejgccaaGreat
open Go.Pv
set_option maxRecDepth 100000
set_option maxHeartbeats 16000000
theorem curL_keep {r : Rc} {l : List Bool} (h : r.ok = true) (hr : r.Few) : ∀ i, i ≤ l.length → (∀ j, j < i → (curL r.K l r j).s = 0) → (curL r.K l r i).ok = true ∧ (curL r.K l r i).K = r.K ∧ (curL r.K l r i).n = r.n ∧ (curL r.K l r i).Few
  | 0, _, _ => ⟨h, rfl, rfl, hr⟩
  | i + 1, hi, hs => by
    obtain ⟨k1, k2, k3, k4⟩ := curL_keep h hr i (by omega) (fun j hj => hs j (by omega))
    rw [curL_succ (by omega)]
    refine ⟨?_, by rw [look_K]; exact k2, by rw [look_n]; exact k3, look_few k4 _ _⟩
    have := look_ok k1 (hs i (by omega)) (l[i]'(by omega))
    rw [k2] at this
    exact this
theorem few57_few {r : Rc} (h : few57 r.n r.L1 r.L2 = true) : r.Few := by
  unfold few57 fewB at h
  simp only [Bool.and_eq_true, Bool.or_eq_true, decide_eq_true_eq] at h
  refine ⟨by omega, ?_, ?_⟩ <;> unfold Few3 <;> omega
theorem enc_loose (r : Rc) (t1 t2 : Bool) : PLe (.agg (r.enc t1 t2)) (.agg (r.enc false false)) := PLe.aggs ⟨.refl _, .refl _, .refl _, PLe.loose, .refl _, PLe.loose, .refl _, .refl _, trivial⟩
theorem same57_zero (st : Store) : Rets P F.podiumref57_Same [.agg (Rc.zero.enc false false), .agg [.int 0, .int 0, .bool false, .nil, .bool false, .nil, .int 0, .int 0]] st (.bool true) := by
  have := same57_spec Rc.zero Rc.zero few_0.len false false true true st
  rw [decide_eq_true rfl] at this
  exact Rets.args (qs := [.agg (Rc.zero.enc false false), .agg (Rc.zero.enc true true)]) ⟨.refl _, PLe.aggs ⟨.refl _, .refl _, .refl _, PLe.nil, .refl _, PLe.nil, .refl _, .refl _, trivial⟩, trivial⟩ this
end Go.Proofs.YtokkkmfbejgccaaGreat
