/- The statements' own examples: sane. -/
import Derived.Test.YtokkkmfbejgccaaS57ZE
namespace Go.Proofs.Ytokkkmfbejgccaa
open Go.Pv
set_option maxRecDepth 100000
set_option maxHeartbeats 16000000
def r0 : Rc := ⟨10, 2, false, [1], false, [20], 0, 0⟩
theorem k_start : startR 10 2 false [1] false [20] = r0 := by decide +kernel
theorem e_start : needE 10 2 false [1] false [20] = 0 := by decide +kernel
theorem e_start0 : needE 10 0 false [1] false [20] = 560 := by decide +kernel
theorem k_start0 : startR 10 0 false [1] false [20] = Rc.zero := by decide +kernel
theorem k_start1 : startR 10 2 false [1] false [1] = ⟨10, 2, false, [1], false, [1], 0, 1⟩ := by decide +kernel
theorem e_start1 : needE 10 2 false [1] false [1] = 0 := by decide +kernel
theorem k_look0 (g : Bool) : lookR Rc.zero g = (Rc.zero, 570) := by cases g <;> decide +kernel
theorem k_ok0 : Rc.zero.ok = false := by decide +kernel
theorem k_ok : r0.ok = true := by decide +kernel
theorem k_look : lookR r0 true = (⟨10, 2, false, [1], false, [20], 1, 0⟩, 0) := by decide +kernel
theorem k_lookx : lookR ⟨10, 2, false, [1], false, [20], 8, 1⟩ true = (Rc.zero, 570) := by decide +kernel
theorem k_run1 : runR r0 [9, 8, 7, 6, 5, 4, 3, 2, 1, 0] [true, true, true, true, true, true, true, true, true, true] = (⟨10, 2, false, [1], false, [20], 8, 1⟩, 8, 0) := by decide +kernel
theorem k_run2 : runR r0 [9, 8, 7, 6, 5, 4, 3, 2, 1, 0] [true, true, true, true, true, true, true, true, true, false] = (⟨10, 2, false, [1], false, [20], 0, 2⟩, 1, 0) := by decide +kernel
theorem k_run3 : runR r0 [0, 0] [true, true, true, true, true, true, true, true, true, true] = (Rc.zero, 0, 1) := by decide +kernel
theorem d1 : digs 1 = [1] := by decide +kernel
theorem d20 : digs 20 = [20] := by decide +kernel
theorem m20 : mkRat 1 20 = ⟨1, 20, by decide, by decide⟩ := by decide +kernel
theorem m1 : mkRat 1 1 = 1 := by decide +kernel
def rv (n w : Int) (l1 l2 : Int) (a k : Int) : List PV := [.int n, .int w, .bool false, .list false [.int l1] 1, .bool false, .list false [.int l2] 1, .int a, .int k]
theorem few_r0 (a k : Int) : (⟨10, 2, false, [1], false, [20], a, k⟩ : Rc).Few := ⟨.inl (show (10 : Int) ≤ 40 by decide), show Few3 [1] by unfold Few3; decide, show Few3 [20] by unfold Few3; decide⟩
theorem few_0 : Rc.zero.Few := ⟨.inl (by decide), by unfold Few3; decide, by unfold Few3; decide⟩
theorem s_of20 (st : Store) : Rets P F.podiumlaw57_of [.int 1, .int 20] st (.agg [.bool false, .list false [.int 1] 1, .bool false, .list false [.int 20] 1]) := by
  have := of_spec 1 20 (by decide) (by decide) (by decide) (by decide) st
  rw [m20] at this
  simp [rC, zC, d1, d20] at this
  exact this
theorem s_of1 (st : Store) : Rets P F.podiumlaw57_of [.int 1, .int 1] st (.agg [.bool false, .list false [.int 1] 1, .bool false, .list false [.int 1] 1]) := by
  have := of_spec 1 1 (by decide) (by decide) (by decide) (by decide) st
  rw [show mkRat (1 : Int) ((1 : Nat)) = 1 from m1] at this
  simp [rC, zC, d1] at this
  exact this
theorem s_start (st : Store) : Rets P F.recount_Start [.int 10, .int 2, .agg [.bool false, .list false [.int 1] 1, .bool false, .list false [.int 20] 1]] st (.tuple [.agg (rv 10 2 1 20 0 0), .int 0]) := by
  have := start_spec 10 2 false false false false [1] [20] (.inl (by decide)) (by unfold Few3; decide) (by unfold Few3; decide) st
  rw [k_start, e_start] at this
  exact this
theorem s_start1 (st : Store) : Rets P F.recount_Start [.int 10, .int 2, .agg [.bool false, .list false [.int 1] 1, .bool false, .list false [.int 1] 1]] st (.tuple [.agg (rv 10 2 1 1 0 1), .int 0]) := by
  have := start_spec 10 2 false false false false [1] [1] (.inl (by decide)) (by unfold Few3; decide) (by unfold Few3; decide) st
  rw [k_start1, e_start1] at this
  exact this
theorem s_start0 (st : Store) : Rets P F.recount_Start [.int 10, .int 0, .agg [.bool false, .list false [.int 1] 1, .bool false, .list false [.int 20] 1]] st (.tuple [.agg (Rc.zero.enc false false), .int 560]) := by
  have := start_spec 10 0 false false false false [1] [20] (.inl (by decide)) (by unfold Few3; decide) (by unfold Few3; decide) st
  rw [k_start0, e_start0] at this
  exact this
theorem s_look0 (g : Bool) (st : Store) : Rets P F.recount_Look [.agg [.int 0, .int 0, .bool false, .nil, .bool false, .nil, .int 0, .int 0], .bool g] st (.tuple [.agg (Rc.zero.enc false false), .int 570]) := by
  have := look_spec Rc.zero few_0 (by decide +kernel) true true g st
  rw [k_look0] at this
  exact Rets.args (qs := [.agg (Rc.zero.enc true true), .bool g]) ⟨PLe.aggs ⟨.refl _, .refl _, .refl _, PLe.nil, .refl _, PLe.nil, .refl _, .refl _, trivial⟩, .refl _, trivial⟩ this
theorem s_check0 (st : Store) : Rets P F.recount_Check [.agg [.int 0, .int 0, .bool false, .nil, .bool false, .nil, .int 0, .int 0]] st (.int 570) := by
  have := check_spec Rc.zero few_0 true true st
  rw [k_ok0] at this
  exact Rets.args (qs := [.agg (Rc.zero.enc true true)]) ⟨PLe.aggs ⟨.refl _, .refl _, .refl _, PLe.nil, .refl _, PLe.nil, .refl _, .refl _, trivial⟩, trivial⟩ this
theorem s_check (st : Store) : Rets P F.recount_Check [.agg (rv 10 2 1 20 0 0)] st (.int 0) := by
  have := check_spec r0 (few_r0 _ _) false false st
  rw [k_ok] at this
  exact this
theorem s_look (st : Store) : Rets P F.recount_Look [.agg (rv 10 2 1 20 0 0), .bool true] st (.tuple [.agg (rv 10 2 1 20 1 0), .int 0]) := by
  have := look_spec r0 (few_r0 _ _) (by decide +kernel) false false true st
  rw [k_look] at this
  exact this
theorem s_lookx (st : Store) : Rets P F.recount_Look [.agg (rv 10 2 1 20 8 1), .bool true] st (.tuple [.agg (Rc.zero.enc false false), .int 570]) := by
  have := look_spec ⟨10, 2, false, [1], false, [20], 8, 1⟩ (few_r0 _ _) (by decide +kernel) false false true st
  rw [k_lookx] at this
  exact this
theorem s_run1 (t u : Bool) (st : Store) : Rets P F.recount_Run [.agg (rv 10 2 1 20 0 0), .list t [.int 9, .int 8, .int 7, .int 6, .int 5, .int 4, .int 3, .int 2, .int 1, .int 0] 10, .list u [.bool true, .bool true, .bool true, .bool true, .bool true, .bool true, .bool true, .bool true, .bool true, .bool true] 10] st (.tuple [.agg (rv 10 2 1 20 8 1), .int 8, .int 0]) := by
  have := run_spec r0 (few_r0 _ _) false false t u [9, 8, 7, 6, 5, 4, 3, 2, 1, 0] [true, true, true, true, true, true, true, true, true, true] (by decide) st
  rw [k_run1] at this
  exact this
theorem s_run2 (t u : Bool) (st : Store) : Rets P F.recount_Run [.agg (rv 10 2 1 20 0 0), .list t [.int 9, .int 8, .int 7, .int 6, .int 5, .int 4, .int 3, .int 2, .int 1, .int 0] 10, .list u [.bool true, .bool true, .bool true, .bool true, .bool true, .bool true, .bool true, .bool true, .bool true, .bool false] 10] st (.tuple [.agg (rv 10 2 1 20 0 2), .int 1, .int 0]) := by
  have := run_spec r0 (few_r0 _ _) false false t u [9, 8, 7, 6, 5, 4, 3, 2, 1, 0] [true, true, true, true, true, true, true, true, true, false] (by decide) st
  rw [k_run2] at this
  exact this
theorem s_run3 (t u : Bool) (st : Store) : Rets P F.recount_Run [.agg (rv 10 2 1 20 0 0), .list t [.int 0, .int 0] 2, .list u [.bool true, .bool true, .bool true, .bool true, .bool true, .bool true, .bool true, .bool true, .bool true, .bool true] 10] st (.tuple [.agg (Rc.zero.enc false false), .int 0, .int 1]) := by
  have := run_spec r0 (few_r0 _ _) false false t u [0, 0] [true, true, true, true, true, true, true, true, true, true] (by decide) st
  rw [k_run3] at this
  exact this
theorem sane_spec (st : Store) : Rets P F.podiumlaw57_sane [] st (.bool true) := by
  have f := fun n w l1 l2 a k => cells_sub (show (rv n w l1 l2 a k).length = 8 from rfl)
  have fz := cells_sub (show (Rc.zero.enc false false).length = 8 from rfl)
  have lz : (Rc.zero.enc false false).length = 8 := rfl
  have h0 : ∀ n w l1 l2 a k (h : 0 < (rv n w l1 l2 a k).length), (rv n w l1 l2 a k)[0]'h = .int n := fun n w l1 l2 a k h => rfl
  have h1 : ∀ n w l1 l2 a k (h : 1 < (rv n w l1 l2 a k).length), (rv n w l1 l2 a k)[1]'h = .int w := fun n w l1 l2 a k h => rfl
  have h6 : ∀ n w l1 l2 a k (h : 6 < (rv n w l1 l2 a k).length), (rv n w l1 l2 a k)[6]'h = .int a := fun n w l1 l2 a k h => rfl
  have h7 : ∀ n w l1 l2 a k (h : 7 < (rv n w l1 l2 a k).length), (rv n w l1 l2 a k)[7]'h = .int k := fun n w l1 l2 a k h => rfl
  have lE : ∀ n w l1 l2 a k, (rv n w l1 l2 a k).length = 8 := fun n w l1 l2 a k => rfl
  have fa := fun n w l1 l2 a k => cells_all (c := [.int 0, .int 0, .bool false, .nil, .bool false, .nil, .int 0, .int 0]) (V := rv n w l1 l2 a k) rfl
  have fb := cells_all (c := [.int 0, .int 0, .bool false, .nil, .bool false, .nil, .int 0, .int 0]) (V := Rc.zero.enc false false) rfl
  refine H.podiumlaw57_sane.pure hmix rfl rfl ?_
  repeat' (first 
   | (with_reducible refine Fresh.intro fun b hb => ?_) <;> (try simp -dsimp -implicitDefEqProofs [*] at hb)
   | (with_reducible refine Rets.xcall (s_of20 _) ?_)
   | (with_reducible refine Rets.xcall (s_of1 _) ?_)
   | (with_reducible refine Rets.xcall (s_start _) ?_)
   | (with_reducible refine Rets.xcall (s_start0 _) ?_)
   | (with_reducible refine Rets.xcall (s_start1 _) ?_)
   | (with_reducible refine Rets.xcall (s_look0 _ _) ?_)
   | (with_reducible refine Rets.xcall (s_look _) ?_)
   | (with_reducible refine Rets.xcall (s_lookx _) ?_)
   | (with_reducible refine Rets.xcall (s_check _) ?_)
   | (with_reducible refine Rets.xcall (s_check0 _) ?_)
   | (with_reducible refine Rets.xcall (s_run1 _ _ _) ?_)
   | (with_reducible refine Rets.xcall (s_run2 _ _ _) ?_)
   | (with_reducible refine Rets.xcall (s_run3 _ _ _) ?_)
   | (with_reducible refine Lit.imm ?_)
   | (simp -dsimp -implicitDefEqProofs [*]))
end Go.Proofs.Ytokkkmfbejgccaa
