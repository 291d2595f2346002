/- Add. -/
import Derived.Test.YtahdhdgglbcagaaS49C
namespace Go.Proofs.Ytahdhdgglbcagaa
open Go.Pv
set_option maxRecDepth 100000
def addN (l : List Event) (x : Event) : Int :=
  if checkE l ≠ 0 then checkE l else if rightE x = false then 490 else if has l x.no then 141 else if l.length = 4096 then 2 else 0
def addL (l : List Event) (x : Event) : List Event := if addN l x = 0 then ins l (pos l x.no) x else []
theorem checkE_zero {l : List Event} : checkE l = 0 ↔ l.length ≤ 4096 ∧ ok l := by
  unfold checkE
  split
  · constructor <;> intro h <;> omega
  · split
    · constructor
      · intro _; exact ⟨by omega, by assumption⟩
      · intro _; rfl
    · constructor
      · intro h; omega
      · intro h; exact absurd h.2 (by assumption)
theorem pos_le (l : List Event) (n : Int) : pos l n ≤ l.length := List.findIdx_le_length
theorem insert_empty (x : Event) (st : Store) : PCalls P F.slices_Insert__LapiEvent_apiEvent [.list true [] 0, .int (0 : Nat), .list true x.enc 1] st (InsQ [] 0 x st) := by
  refine H.slices_Insert__LapiEvent_apiEvent.view hmix rfl rfl ?_
  repeat' (first
    | (with_reducible refine Fresh.intro fun b hb => ?_) <;> (try simp -dsimp -implicitDefEqProofs [*] at hb)
    | (with_reducible refine Lit.imm ?_)
    | ((with_reducible refine Grow.intro ?_ fun b cap hb hc1 hc2 => ?_); omega) <;> (try simp -dsimp -implicitDefEqProofs [*] at hb)
    | (with_reducible refine RetView.nil2 ?_)
    | (with_reducible refine RetView.nil1 ?_)
    | (with_reducible refine RetView.loose2 (t := true) ?_)
    | (with_reducible refine RetView.loose1 (t := true) ?_)
    | (with_reducible refine RetView.fz 9 ?_ ?_)
    | (with_reducible refine RetView.same ?_)
    | (with_reducible refine DrawLate.intro [] ?_)
    | (with_reducible refine Cls_and ?_ ?_)
    | (with_reducible exact Cls.self _ _)
    | (with_reducible refine Cls_same ?_)
    | (with_reducible refine Cls_in ?_ ?_)
    | (with_reducible refine Cls_fresh ?_ ?_)
    | (with_reducible refine And.intro (fun h => ?_) (fun h => ?_)) <;> (try (exfalso; omega))
    | (with_reducible refine And.intro (fun h => ?_) ?_) <;> (try (exfalso; omega))
    | ((with_reducible refine and_keep ?_ fun hk => ?_); omega)
    | (simp -dsimp -implicitDefEqProofs [*]))
  refine ⟨?_, rfl⟩
  simp [ins]
theorem add_spec (t : Bool) (l : List Event) (x : Event) (st : Store) : Rets P F.record_Add [Event.lst t l, x.pv] st (.tuple [Event.lst false (addL l x), .int (addN l x)]) := by
  refine H.record_Add.view hmix rfl rfl ?_
  by_cases hc : checkE l = 0
  · obtain ⟨hl, hok⟩ := checkE_zero.1 hc
    repeat' (first
      | (with_reducible refine Fresh.intro fun b hb => ?_) <;> (try simp -dsimp -implicitDefEqProofs [*] at hb)
      | (with_reducible refine Rets.xcall (check_spec _ _ _) ?_)
      | (with_reducible refine Rets.xsoft (check_spec _ _ _) ?_)
      | (with_reducible refine xlateCall_of (fun _ => check_spec _ _ _) ?_)
      | (with_reducible refine Rets.xcall (kinds_spec _) ?_)
      | (with_reducible refine Rets.xsoft (kinds_spec _) ?_)
      | (with_reducible refine xlateCall_of (fun _ => kinds_spec _) ?_)
      | (with_reducible refine Rets.xcall (right_spec _ _) ?_)
      | (with_reducible refine Rets.xsoft (right_spec _ _) ?_)
      | (with_reducible refine xlateCall_of (fun _ => right_spec _ _) ?_)
      | (with_reducible refine Rets.xcall (search_spec _ _ _ hok hl _) ?_)
      | (with_reducible refine Rets.xsoft (search_spec _ _ _ hok hl _) ?_)
      | (with_reducible refine xlateCall_of (fun _ => search_spec _ _ _ hok hl _) ?_)
      | (with_reducible refine Lit.imm ?_)
      | ((with_reducible refine Grow.intro ?_ fun b cap hb hc1 hc2 => ?_); omega) <;> (try simp -dsimp -implicitDefEqProofs [*] at hb)
      | (with_reducible refine DrawLate.intro [] ?_)
      | (with_reducible refine Cls_and ?_ ?_)
      | (with_reducible exact Cls.self _ _)
      | (with_reducible refine Cls_same ?_)
      | (with_reducible refine Cls_in ?_ ?_)
      | (with_reducible refine Cls_fresh ?_ ?_)
      | (with_reducible refine And.intro (fun h => ?_) (fun h => ?_)) <;> (try (exfalso; omega))
      | (with_reducible refine And.intro (fun h => ?_) ?_) <;> (try (exfalso; omega))
      | ((with_reducible refine and_keep ?_ fun hk => ?_); omega)
      | (simp -dsimp -implicitDefEqProofs [*]))
    · refine .fresh1 hb (.nil2 (.same ⟨?_, rfl⟩))
      simp_all [addL, addN]
    · refine .fresh1 hb (.nil2 (.same ⟨?_, rfl⟩))
      have : l.length = 4096 := by omega
      simp_all [addL, addN]
    · have hres : PEnd.ret (.tuple [Event.lst false (ins l (pos l x.no) x), .int 0]) = PEnd.ret (.tuple [Event.lst false (addL l x), .int (addN l x)]) := by
        have : ¬ l.length = 4096 := by omega
        simp_all [addL, addN]
      refine xcall_post (clone_own t l hl _) fun e s hq => ?_
      rcases hq with ⟨rfl, rfl, rfl⟩ | ⟨b2, cap, hb2, hc1, hc2, rfl, rfl⟩
      · repeat' (first
          | (with_reducible refine Fresh.intro fun b hb => ?_) <;> (try simp -dsimp -implicitDefEqProofs [*] at hb)
          | (with_reducible refine Lit.imm ?_)
          | ((with_reducible refine Grow.intro ?_ fun b cap hb hc1 hc2 => ?_); omega) <;> (try simp -dsimp -implicitDefEqProofs [*] at hb)
          | (with_reducible refine DrawLate.intro [] ?_)
          | (with_reducible refine Cls_and ?_ ?_)
          | (with_reducible exact Cls.self _ _)
          | (with_reducible refine Cls_same ?_)
          | (with_reducible refine Cls_in ?_ ?_)
          | (with_reducible refine Cls_fresh ?_ ?_)
          | (with_reducible refine And.intro (fun h => ?_) (fun h => ?_)) <;> (try (exfalso; omega))
          | (with_reducible refine And.intro (fun h => ?_) ?_) <;> (try (exfalso; omega))
          | ((with_reducible refine and_keep ?_ fun hk => ?_); omega)
          | (simp -dsimp -implicitDefEqProofs [*]))
        have h0 : pos [] x.no = 0 := rfl
        rw [h0] at hres ⊢
        refine xcall_post (insert_empty x _) fun e s hq => ?_
        obtain ⟨rfl, rfl⟩ := hq
        repeat' (first
          | (with_reducible refine Fresh.intro fun b hb => ?_) <;> (try simp -dsimp -implicitDefEqProofs [*] at hb)
          | (with_reducible refine Lit.imm ?_)
          | ((with_reducible refine Grow.intro ?_ fun b cap hb hc1 hc2 => ?_); omega) <;> (try simp -dsimp -implicitDefEqProofs [*] at hb)
          | (with_reducible refine DrawLate.intro [] ?_)
          | (with_reducible refine Cls_and ?_ ?_)
          | (with_reducible exact Cls.self _ _)
          | (with_reducible refine Cls_same ?_)
          | (with_reducible refine Cls_in ?_ ?_)
          | (with_reducible refine Cls_fresh ?_ ?_)
          | (with_reducible refine And.intro (fun h => ?_) (fun h => ?_)) <;> (try (exfalso; omega))
          | (with_reducible refine And.intro (fun h => ?_) ?_) <;> (try (exfalso; omega))
          | ((with_reducible refine and_keep ?_ fun hk => ?_); omega)
          | (simp -dsimp -implicitDefEqProofs [*]))
        exact .fresh1 hb (.same ⟨hres, rfl⟩)
      · simp -dsimp -implicitDefEqProofs [*] at hb2
        repeat' (first
          | (with_reducible refine Fresh.intro fun b hb => ?_) <;> (try simp -dsimp -implicitDefEqProofs [*] at hb)
          | (with_reducible refine Lit.imm ?_)
          | ((with_reducible refine Grow.intro ?_ fun b cap hb hc1 hc2 => ?_); omega) <;> (try simp -dsimp -implicitDefEqProofs [*] at hb)
          | (with_reducible refine DrawLate.intro [] ?_)
          | (with_reducible refine Cls_and ?_ ?_)
          | (with_reducible exact Cls.self _ _)
          | (with_reducible refine Cls_same ?_)
          | (with_reducible refine Cls_in ?_ ?_)
          | (with_reducible refine Cls_fresh ?_ ?_)
          | (with_reducible refine And.intro (fun h => ?_) (fun h => ?_)) <;> (try (exfalso; omega))
          | (with_reducible refine And.intro (fun h => ?_) ?_) <;> (try (exfalso; omega))
          | ((with_reducible refine and_keep ?_ fun hk => ?_); omega)
          | (simp -dsimp -implicitDefEqProofs [*]))
        unfold ownE
        refine xcall_post (insert_own l hl (pos l x.no) (pos_le _ _) x b2 cap hc1 hc2 (Event.row l ++ List.replicate ((cap - l.length) * 9) .any) (by simp; omega) ⟨_, rfl⟩ ((b, .arr T.apiEvent x.enc) :: st) (by simp [*])) fun e s hq => ?_
        obtain ⟨rfl, rfl⟩ := hq
        repeat' (first
          | (with_reducible refine Fresh.intro fun b hb => ?_) <;> (try simp -dsimp -implicitDefEqProofs [*] at hb)
          | (with_reducible refine Lit.imm ?_)
          | ((with_reducible refine Grow.intro ?_ fun b cap hb hc1 hc2 => ?_); omega) <;> (try simp -dsimp -implicitDefEqProofs [*] at hb)
          | (with_reducible refine DrawLate.intro [] ?_)
          | (with_reducible refine Cls_and ?_ ?_)
          | (with_reducible exact Cls.self _ _)
          | (with_reducible refine Cls_same ?_)
          | (with_reducible refine Cls_in ?_ ?_)
          | (with_reducible refine Cls_fresh ?_ ?_)
          | (with_reducible refine And.intro (fun h => ?_) (fun h => ?_)) <;> (try (exfalso; omega))
          | (with_reducible refine And.intro (fun h => ?_) ?_) <;> (try (exfalso; omega))
          | ((with_reducible refine and_keep ?_ fun hk => ?_); omega)
          | (simp -dsimp -implicitDefEqProofs [*]))
        exact .fresh1 hb (.same ⟨hres, rfl⟩)
    · refine .fresh1 hb (.nil2 (.same ⟨?_, rfl⟩))
      simp_all [addL, addN]
  · repeat' (first
      | (with_reducible refine Fresh.intro fun b hb => ?_) <;> (try simp -dsimp -implicitDefEqProofs [*] at hb)
      | (with_reducible refine Rets.xcall (check_spec _ _ _) ?_)
      | (with_reducible refine Rets.xsoft (check_spec _ _ _) ?_)
      | (with_reducible refine xlateCall_of (fun _ => check_spec _ _ _) ?_)
      | (with_reducible refine Lit.imm ?_)
      | ((with_reducible refine Grow.intro ?_ fun b cap hb hc1 hc2 => ?_); omega) <;> (try simp -dsimp -implicitDefEqProofs [*] at hb)
      | (with_reducible refine DrawLate.intro [] ?_)
      | (with_reducible refine Cls_and ?_ ?_)
      | (with_reducible exact Cls.self _ _)
      | (with_reducible refine Cls_same ?_)
      | (with_reducible refine Cls_in ?_ ?_)
      | (with_reducible refine Cls_fresh ?_ ?_)
      | (with_reducible refine And.intro (fun h => ?_) (fun h => ?_)) <;> (try (exfalso; omega))
      | (with_reducible refine And.intro (fun h => ?_) ?_) <;> (try (exfalso; omega))
      | ((with_reducible refine and_keep ?_ fun hk => ?_); omega)
      | (simp -dsimp -implicitDefEqProofs [*]))
    refine .fresh1 ‹_› (.nil2 (.same ⟨?_, rfl⟩))
    simp_all [addL, addN]
end Go.Proofs.Ytahdhdgglbcagaa
