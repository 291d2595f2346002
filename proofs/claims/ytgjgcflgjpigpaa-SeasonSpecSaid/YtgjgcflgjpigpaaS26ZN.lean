/- Sane. -/
import Derived.Test.YtgjgcflgjpigpaaS26RL
import Derived.Test.YtgjgcflgjpigpaaS26ZJ
import Derived.Test.YtgjgcflgjpigpaaRows
import Derived.WalkKit
import Derived.ProofKit
import Derived.OpenShut
import Derived.ChangeOld
import Derived.Below
import Derived.JoinedCond
import Derived.Test.YtgjgcflgjpigpaaLBr
import Derived.Test.YtgjgcflgjpigpaaLRd
namespace Go.Proofs.Ytgjgcflgjpigpaa
open Go.Pv
set_option maxRecDepth 100000
set_option maxHeartbeats 8000000
def scR (no at_ n : Int) : Rec := ⟨no, 0, at_, ⟨false, [n], false, [1]⟩⟩
theorem dg5 : digs 5 = [5] := by decide +kernel
theorem mk5 : mkRat 5 1 = 5 := by decide +kernel
theorem dg6 : digs 6 = [6] := by decide +kernel
theorem mk6 : mkRat 6 1 = 6 := by decide +kernel
theorem dg7 : digs 7 = [7] := by decide +kernel
theorem mk7 : mkRat 7 1 = 7 := by decide +kernel
theorem dg9 : digs 9 = [9] := by decide +kernel
theorem mk9 : mkRat 9 1 = 9 := by decide +kernel
theorem dg1 : digs 1 = [1] := by decide +kernel
theorem score_1_3 (st : Store) : Rets P F.podiumlaw26_score [.int 1, .int 3, .int 5] st (.agg [.int 1, .int 0, .int 3, .bool false, .list false [.int 5] 1, .bool false, .list false [.int 1] 1]) := by
  have c : ∀ st, Rets P F.podiumref10_Int [.int 5] st (.agg [.bool false, .list false [.int 5] 1, .bool false, .list false [.int 1] 1]) := fun st => by
    have := rInt_rat 5 (by decide) (by decide) st
    rw [mk5] at this
    simp [rC, zC, dg5, dg1] at this
    exact this
  refine H.podiumlaw26_score.pure hmix rfl rfl ?_
  repeat' (first 
   | (with_reducible refine Fresh.intro fun b hb => ?_) <;> (try simp -dsimp -implicitDefEqProofs [*] at hb)
   | (with_reducible refine Rets.xcall (c _) ?_)
   | (simp -dsimp -implicitDefEqProofs [*]))
theorem score_2_1 (st : Store) : Rets P F.podiumlaw26_score [.int 2, .int 1, .int 7] st (.agg [.int 2, .int 0, .int 1, .bool false, .list false [.int 7] 1, .bool false, .list false [.int 1] 1]) := by
  have c : ∀ st, Rets P F.podiumref10_Int [.int 7] st (.agg [.bool false, .list false [.int 7] 1, .bool false, .list false [.int 1] 1]) := fun st => by
    have := rInt_rat 7 (by decide) (by decide) st
    rw [mk7] at this
    simp [rC, zC, dg7, dg1] at this
    exact this
  refine H.podiumlaw26_score.pure hmix rfl rfl ?_
  repeat' (first 
   | (with_reducible refine Fresh.intro fun b hb => ?_) <;> (try simp -dsimp -implicitDefEqProofs [*] at hb)
   | (with_reducible refine Rets.xcall (c _) ?_)
   | (simp -dsimp -implicitDefEqProofs [*]))
theorem score_4_8 (st : Store) : Rets P F.podiumlaw26_score [.int 4, .int 8, .int 9] st (.agg [.int 4, .int 0, .int 8, .bool false, .list false [.int 9] 1, .bool false, .list false [.int 1] 1]) := by
  have c : ∀ st, Rets P F.podiumref10_Int [.int 9] st (.agg [.bool false, .list false [.int 9] 1, .bool false, .list false [.int 1] 1]) := fun st => by
    have := rInt_rat 9 (by decide) (by decide) st
    rw [mk9] at this
    simp [rC, zC, dg9, dg1] at this
    exact this
  refine H.podiumlaw26_score.pure hmix rfl rfl ?_
  repeat' (first 
   | (with_reducible refine Fresh.intro fun b hb => ?_) <;> (try simp -dsimp -implicitDefEqProofs [*] at hb)
   | (with_reducible refine Rets.xcall (c _) ?_)
   | (simp -dsimp -implicitDefEqProofs [*]))
theorem score_1_4 (st : Store) : Rets P F.podiumlaw26_score [.int 1, .int 4, .int 6] st (.agg [.int 1, .int 0, .int 4, .bool false, .list false [.int 6] 1, .bool false, .list false [.int 1] 1]) := by
  have c : ∀ st, Rets P F.podiumref10_Int [.int 6] st (.agg [.bool false, .list false [.int 6] 1, .bool false, .list false [.int 1] 1]) := fun st => by
    have := rInt_rat 6 (by decide) (by decide) st
    rw [mk6] at this
    simp [rC, zC, dg6, dg1] at this
    exact this
  refine H.podiumlaw26_score.pure hmix rfl rfl ?_
  repeat' (first 
   | (with_reducible refine Fresh.intro fun b hb => ?_) <;> (try simp -dsimp -implicitDefEqProofs [*] at hb)
   | (with_reducible refine Rets.xcall (c _) ?_)
   | (simp -dsimp -implicitDefEqProofs [*]))
theorem exL3 : ListedR [scR 1 3 5, scR 2 1 7, scR 4 8 9] := fun i hi => by
  match i, hi with
  | 0, _ => exact show rightR (scR 1 3 5) (-1) = true by decide +kernel
  | 1, _ => exact show rightR (scR 2 1 7) 1 = true by decide +kernel
  | 2, _ => exact show rightR (scR 4 8 9) 2 = true by decide +kernel
theorem exR3 : recE [scR 1 3 5, scR 2 1 7, scR 4 8 9] = 0 ∧ recL [scR 1 3 5, scR 2 1 7, scR 4 8 9] = [scR 2 1 7, scR 4 8 9] := by
  obtain ⟨h1, h2⟩ := (rec_k [scR 1 3 5, scR 2 1 7, scR 4 8 9]).k3 (by decide) exL3
  exact ⟨h1, by rw [h2]; decide +kernel⟩
theorem exR2 : recE [scR 1 3 5, scR 1 4 6] = 260 ∧ recL [scR 1 3 5, scR 1 4 6] = [] := (rec_k _).k2 (by decide) 1 (by decide) (by decide +kernel)
theorem scR_len (no at_ n : Int) : (scR no at_ n).score.Len := ⟨by simp [scR], by simp [scR]⟩
theorem few_5 : few6 (scR 1 3 5).score = true := by decide +kernel
theorem few_7 : few6 (scR 2 1 7).score = true := by decide +kernel
theorem few_9 : few6 (scR 4 8 9).score = true := by decide +kernel
theorem few_6 : few6 (scR 1 4 6).score = true := by decide +kernel
theorem records_ex3 (st : Store) : Rets P F.season_Records [.list true [.int 1, .int 0, .int 3, .bool false, .list false [.int 5] 1, .bool false, .list false [.int 1] 1, .int 2, .int 0, .int 1, .bool false, .list false [.int 7] 1, .bool false, .list false [.int 1] 1, .int 4, .int 0, .int 8, .bool false, .list false [.int 9] 1, .bool false, .list false [.int 1] 1] 3] st (.tuple [.list false [.int 2, .int 0, .int 1, .bool false, .list false [.int 7] 1, .bool false, .list false [.int 1] 1, .int 4, .int 0, .int 8, .bool false, .list false [.int 9] 1, .bool false, .list false [.int 1] 1] 2, .int 0]) := by
  have := sRecords_spec true [scR 1 3 5, scR 2 1 7, scR 4 8 9] (fun _ => by simp [scR_len]) (fun _ => by simp [few_5, few_7, few_9]) st
  rw [exR3.1, exR3.2] at this
  exact this
theorem records_ex2 (st : Store) : Rets P F.season_Records [.list true [.int 1, .int 0, .int 3, .bool false, .list false [.int 5] 1, .bool false, .list false [.int 1] 1, .int 1, .int 0, .int 4, .bool false, .list false [.int 6] 1, .bool false, .list false [.int 1] 1] 2] st (.tuple [.list false [] 0, .int 260]) := by
  have := sRecords_spec true [scR 1 3 5, scR 1 4 6] (fun _ => by simp [scR_len]) (fun _ => by simp [few_5, few_6]) st
  rw [exR2.1, exR2.2] at this
  exact this
theorem same_ex (st : Store) : Rets P F.podiumref26_Same [.list false [.int 2, .int 0, .int 1, .bool false, .list false [.int 7] 1, .bool false, .list false [.int 1] 1, .int 4, .int 0, .int 8, .bool false, .list false [.int 9] 1, .bool false, .list false [.int 1] 1] 2, .list true [.int 2, .int 0, .int 1, .bool false, .list false [.int 7] 1, .bool false, .list false [.int 1] 1, .int 4, .int 0, .int 8, .bool false, .list false [.int 9] 1, .bool false, .list false [.int 1] 1] 2] st (.bool true) := by
  have := sameR_spec false true [scR 2 1 7, scR 4 8 9] [scR 2 1 7, scR 4 8 9] (by decide) (by simp [scR_len]) st
  rw [decide_eq_true rfl] at this
  exact this
theorem records_long (b n cap : Nat) (hn : 4096 < n) (st : Store) : Rets P F.season_Records [.own b 0 n cap] st (.tuple [.list false [] 0, .int 2]) := by
  have h : (4096 : Int) < n := by omega
  refine H.season_Records.view hmix rfl rfl ?_
  repeat' (simp -dsimp -implicitDefEqProofs [*])
  exact .sees (.tuple2l (.nil0 _)) (RetView.drop (st' := st) (by repeat' (first | exact StLe.refl _ | (refine StLe_cons (by simp [*]; done) ?_) | (refine StLe_fresh (by simp [*]; done) ?_))) ⟨rfl, rfl⟩)
abbrev exP : List Pl := [⟨0, 1, -1⟩, ⟨1, 2, 0⟩, ⟨2, 2, -1⟩, ⟨3, 4, 0⟩]
theorem exP_right : Pl.Right exP := fun i hi => by
  match i, hi with
  | 0, _ => exact ⟨by decide, fun j hj => absurd hj (by omega), by decide, by decide, by decide, by decide⟩
  | 1, _ => exact ⟨by decide, by decide, by decide, by decide, by decide, by decide⟩
  | 2, _ => exact ⟨by decide, by decide, by decide, by decide, by decide, by decide⟩
  | 3, _ => exact ⟨by decide, by decide, by decide, by decide, by decide, by decide⟩
theorem points_ex4 (st : Store) : Rets P F.season_Points [.list true [.int 10, .int 6, .int 3] 3, .list true [.int 0, .int 1, .int (-1), .int 1, .int 2, .int 0, .int 2, .int 2, .int (-1), .int 3, .int 4, .int 0] 4] st (.tuple [.list false [.int 10, .int 6, .int 6, .int 0] 4, .int 0]) := by
  have h := points_spec true true [10, 6, 3] (by decide) exP (by decide) st
  obtain ⟨h1, h2⟩ := (pts_k [10, 6, 3] exP).k4 (by decide) (by decide) (by decide) ((plE_k exP).k3 (by decide) exP_right)
  rw [h1, h2] at h
  exact h
theorem points_ex0 (st : Store) : Rets P F.season_Points [.list true [.int 3, .int 5] 2, .nil] st (.tuple [.list false [] 0, .int 260]) := by
  have h := points_spec true false [3, 5] (by decide) [] (by decide) st
  obtain ⟨h1, h2⟩ := (pts_k [3, 5] []).k2 (by decide) (.inr (by decide))
  rw [h1, h2] at h
  exact Rets.args (qs := [intLst true [3, 5], Pl.lst false []]) (show PsLe _ _ from ⟨.refl _, .nil1, trivial⟩) h
theorem total_ex0 (st : Store) : Rets P F.season_Total [.nil, .int 65] st (.tuple [.list false [] 0, .int 260]) := by
  have h := total_spec false [] ⟨by decide, by simp⟩ 65 st
  rw [show totL [] 65 = [] by decide +kernel, show totE [] 65 = 260 by decide +kernel] at h
  exact Rets.args (qs := [llLst false [], .int 65]) (show PsLe _ _ from ⟨.nil1, .refl _, trivial⟩) h
theorem total_ex2 (st : Store) : Rets P F.season_Total [.list true [.list true [.int 4, .int 9, .int 7] 3, .list true [] 0] 2, .int 2] st (.tuple [.list false [.int 16, .int 0] 2, .int 0]) := by
  have h := total_spec true [(true, [4, 9, 7]), (true, [])] ⟨by decide, by simp⟩ 2 st
  rw [show totL [(true, [4, 9, 7]), (true, [])] 2 = [16, 0] by decide +kernel, show totE [(true, [4, 9, 7]), (true, [])] 2 = 0 by decide +kernel] at h
  exact h
theorem sane_spec (st : Store) : Rets P F.podiumlaw26_sane [] st (.bool true) := by
  have q1 : ∀ st, Rets P F.podiumref26_SameInts [.list false [.int 10, .int 6, .int 6, .int 0] 4, .list true [.int 10, .int 6, .int 6, .int 0] 4] st (.bool true) := fun st => by
    have := sameInts_spec false true [10, 6, 6, 0] [10, 6, 6, 0] (by decide) st
    rw [decide_eq_true rfl] at this
    exact this
  have q2 : ∀ st, Rets P F.podiumref26_SameInts [.list false [.int 16, .int 0] 2, .list true [.int 16, .int 0] 2] st (.bool true) := fun st => by
    have := sameInts_spec false true [16, 0] [16, 0] (by decide) st
    rw [decide_eq_true rfl] at this
    exact this
  have r1 := fun b cap => records_long b 4097 cap (by omega)
  refine H.podiumlaw26_sane.view hmix rfl rfl ?_
  repeat' (first 
   | (with_reducible refine Fresh.intro fun b hb => ?_) <;> (try simp -dsimp -implicitDefEqProofs [*] at hb)
   | (with_reducible refine Rets.xcall (points_ex4 _) ?_)
   | (with_reducible refine Rets.xcall (points_ex0 _) ?_)
   | (with_reducible refine Rets.xcall (total_ex0 _) ?_)
   | (with_reducible refine Rets.xcall (total_ex2 _) ?_)
   | (with_reducible refine Rets.xcall (score_1_3 _) ?_)
   | (with_reducible refine Rets.xcall (score_2_1 _) ?_)
   | (with_reducible refine Rets.xcall (score_4_8 _) ?_)
   | (with_reducible refine Rets.xcall (score_1_4 _) ?_)
   | (with_reducible refine Rets.xcall (records_ex3 _) ?_)
   | (with_reducible refine Rets.xcall (records_ex2 _) ?_)
   | (with_reducible refine Rets.xcall (r1 _ _ _) ?_)
   | (with_reducible refine Rets.xcall (q1 _) ?_)
   | (with_reducible refine Rets.xcall (q2 _) ?_)
   | (with_reducible refine Rets.xcall (same_ex _) ?_)
   | (with_reducible refine Lit.imm ?_)
   | (simp -dsimp -implicitDefEqProofs [-List.reduceReplicate, *]))
  exact RetView.drop (st' := st) (by repeat' (first | exact StLe.refl _ | (refine StLe_cons (by simp [*]; done) ?_) | (refine StLe_fresh (by simp [*]; done) ?_))) ⟨rfl, rfl⟩
end Go.Proofs.Ytgjgcflgjpigpaa
/- Rows of the seat: whatever the input, each law's function gives true and leaves what it was given as it was. -/
namespace Go.Proofs.Ytgjgcflgjpigpaa
open Go.ChangeShapes Go.WideShapes Go.ChangeAt Go.RowKit Go.Pv
theorem own : ownKnob Try.prog.godebug = none := by kernel_rfl
theorem laidOut : laidOutB Try.prog = true := by kernel_rfl
section
variable {H : Type} {enc : TypeId × Value → H} {W : World} {base : Nat} {spare : Nat → Bool} {held : Bool}
theorem op_ints : Opens enc Try.prog W base spare held [] 22 1 (fun l : List Int => [intLst false l]) (fun _ => True) :=
  (Opens.slice (OffE.nil) Try.underlying22 (by kernel_rfl) (by decide) (Opens.i64 Try.underlying3 (by kernel_rfl))).conv id (fun l => by rw [ints_flat]; rfl) (fun _ _ => trivial)
theorem op_ll : Opens enc Try.prog W base spare held [] 24 1 (fun l : List (Bool × List Int) => [llLst false l]) (fun _ => True) :=
  (Opens.slice (OffE.nil) Try.underlying24 (by kernel_rfl) (by decide) op_ints).conv (fun l => l.map fun r => (false, r)) (fun l => by simp [llRow, List.flatMap_singleton', ← List.map_eq_flatMap]) (fun _ _ => trivial)
theorem op_place : Opens enc Try.prog W base spare held [] 41 3 (fun x : Pl => x.enc) (fun _ => True) :=
  (Opens.struct Try.underlying41 (by kernel_rfl) (.cons rfl (Opens.i64 Try.underlying3 (by kernel_rfl)) (.cons rfl (Opens.i64 Try.underlying3 (by kernel_rfl)) (.cons rfl (Opens.i64 Try.underlying3 (by kernel_rfl)) .nil)))).conv (fun x => ⟨x.1, x.2.1, x.2.2.1⟩) (fun _ => rfl) (fun _ _ => trivial)
theorem op_places : Opens enc Try.prog W base spare held [] 23 1 (fun l : List Pl => [Pl.lst false l]) (fun _ => True) :=
  (Opens.slice (OffE.nil) Try.underlying23 (by kernel_rfl) (by decide) op_place).conv id (fun _ => rfl) (fun _ _ => trivial)
end
theorem lst_wide {I : Imm} {t : Bool} {cs : List PV} {n : Nat} {v : Value} (h : vrep I (.list t cs n) v) : n ≤ 9223372036854775807 := by
  have := vrep_wide _ _ h
  simp only [PV.wide] at this
  exact this.1
theorem ll_wides : ∀ {L : List (Bool × List Int)}, PV.wides (llRow L) → ∀ r ∈ L, r.2.length ≤ 9223372036854775807
  | [], _ => by intro r hr; cases hr
  | x :: L, h => by
    simp only [llRow, List.map_cons, PV.wides, PV.wide] at h
    intro r hr
    rcases List.mem_cons.1 hr with rfl | hr
    · exact h.1.1
    · exact ll_wides h.2 r hr
theorem ll_short {I : Imm} {L : List (Bool × List Int)} {v : Value} (h : vrep I (llLst false L) v) : Short L := by
  have h1 := vrep_wide _ _ h
  simp only [PV.wide] at h1
  exact ⟨h1.1, ll_wides h1.2⟩
end Go.Proofs.Ytgjgcflgjpigpaa
