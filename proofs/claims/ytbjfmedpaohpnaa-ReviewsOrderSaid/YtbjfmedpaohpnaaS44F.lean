/- The reference: Index, Open, Close. -/
import Derived.Test.YtbjfmedpaohpnaaS44E
namespace Go.Proofs.Ytbjfmedpaohpnaa
open Go.Pv
set_option maxRecDepth 100000
def idx (l : List Review) (n : Int) : Int := if has l n then (l.findIdx (fun e => e.no == n) : Nat) else -1
theorem refIndex_spec (t : Bool) (l : List Review) (n : Int) (hl : l.length ≤ 100000) (st : Store) : Rets P F.podiumref44_Index [Review.lst t l, .int n] st (.int (idx l n)) := by
  refine H.podiumref44_Index.pure hmix rfl rfl ?_
  repeat' (first
    | (with_reducible refine Fresh.intro fun b hb => ?_) <;> (try simp -dsimp -implicitDefEqProofs [*] at hb)
    | (with_reducible refine Lit.imm ?_)
    | ((with_reducible refine Grow.intro ?_ fun b cap hb hc1 hc2 => ?_); omega) <;> (try simp -dsimp -implicitDefEqProofs [*] at hb)
    | (with_reducible refine RetView.nil2 ?_)
    | (with_reducible refine RetView.nil1 ?_)
    | (with_reducible refine RetView.loose2 (t := true) ?_)
    | (with_reducible refine RetView.loose1 (t := true) ?_)
    | (with_reducible refine RetView.fz 1 ?_ ?_)
    | (with_reducible refine RetView.same ?_)
    | (with_reducible refine DrawLate.intro [] ?_)
    | (with_reducible refine Cls_and ?_ ?_)
    | (with_reducible exact Cls.self _ _)
    | (with_reducible refine Cls_same ?_)
    | (with_reducible refine Cls_in ?_ ?_)
    | (with_reducible refine Cls_fresh ?_ ?_)
    | (with_reducible refine And.intro (fun h => ?_) (fun h => ?_)) <;> (try (exfalso; omega))
    | (with_reducible refine And.intro (fun h => ?_) ?_) <;> (try (exfalso; omega))
    | ((with_reducible refine and_keep ?_ fun hk => ?_); omega)
    | (simp -dsimp -implicitDefEqProofs [*]))
  refine xloop_for (fun i => [(0, Review.lst t l), (1, .int n), (5, .int (i : Nat))]) (fun _ => st) (fun i => i ≤ l.length ∧ has (l.take i) n = false) (fun i => l.length - i) 0 ?_ ?_ ?_ ?_
  · simp [has]
  · simp
  · simp
  rintro i ⟨hi, hp⟩
  have hw := wrap_succ (n := i) (by omega)
  have hst : ∀ h : i < l.length, has (l.take (i + 1)) n = (l[i].no == n) := fun h => by
    unfold has at *
    rw [List.take_succ_eq_append_getElem h, List.any_append, hp]; simp
  repeat' (first
    | (with_reducible refine Fresh.intro fun b hb => ?_) <;> (try simp -dsimp -implicitDefEqProofs [*] at hb)
    | (with_reducible refine Lit.imm ?_)
    | ((with_reducible refine Grow.intro ?_ fun b cap hb hc1 hc2 => ?_); omega) <;> (try simp -dsimp -implicitDefEqProofs [*] at hb)
    | (with_reducible refine RetView.nil2 ?_)
    | (with_reducible refine RetView.nil1 ?_)
    | (with_reducible refine RetView.loose2 (t := true) ?_)
    | (with_reducible refine RetView.loose1 (t := true) ?_)
    | (with_reducible refine RetView.fz 1 ?_ ?_)
    | (with_reducible refine RetView.same ?_)
    | (with_reducible refine DrawLate.intro [] ?_)
    | (with_reducible refine Cls_and ?_ ?_)
    | (with_reducible exact Cls.self _ _)
    | (with_reducible refine Cls_same ?_)
    | (with_reducible refine Cls_in ?_ ?_)
    | (with_reducible refine Cls_fresh ?_ ?_)
    | (with_reducible refine And.intro (fun h => ?_) (fun h => ?_)) <;> (try (exfalso; omega))
    | (with_reducible refine And.intro (fun h => ?_) ?_) <;> (try (exfalso; omega))
    | ((with_reducible refine and_keep ?_ fun hk => ?_); omega)
    | (simp -dsimp -implicitDefEqProofs [*]))
  · have h1 : has l n = true := by
      unfold has
      rw [List.any_eq_true]
      exact ⟨_, List.getElem_mem hk, by simpa using h⟩
    have h2 : l.findIdx (fun e => e.no == n) = i := by
      rw [List.findIdx_eq hk]
      refine ⟨by simpa using h, fun k hki => ?_⟩
      unfold has at hp
      rw [List.any_eq_false] at hp
      have := hp l[k] (by rw [List.mem_take_iff_getElem]; exact ⟨k, by omega, rfl⟩)
      simpa using this
    rw [idx, if_pos h1, h2]
  · refine Next.intro (i + 1) ⟨by omega, by rw [hst ‹_›]; simpa using h⟩ (by omega) (by simp) (by simp)
  · rw [List.take_of_length_le h] at hp
    rw [idx, if_neg (by simp [hp])]
theorem idx_nonneg (l : List Review) (n : Int) : 0 ≤ idx l n ↔ has l n = true := by
  unfold idx
  split <;> simp_all
theorem idx_pos {l : List Review} (hok : ok l) {n : Int} (h : has l n = true) : idx l n = (pos l n : Nat) := by
  obtain ⟨hp, hn⟩ := (has_iff hok n).1 h
  rw [idx, if_pos h]
  have : l.findIdx (fun e => e.no == n) = pos l n := by
    rw [List.findIdx_eq hp]
    refine ⟨by simpa using hn, fun k hk => ?_⟩
    have := sortedE hok k (pos l n) hk hp (by omega)
    simp; omega
  rw [this]
theorem refOpen_spec (t : Bool) (l : List Review) (no finding time : Int) (st : Store) : Rets P F.podiumref44_Open [Review.lst t l, .int no, .int finding, .int time] st (.tuple [Review.lst false (openL l no finding time), .int (openN l no finding time)]) := by
  refine H.podiumref44_Open.view hmix rfl rfl ?_
  by_cases hc : checkE l = 0
  · obtain ⟨hl, hok⟩ := checkE_zero.1 hc
    have hv : validE (opened no finding time) = (wi no 1048577 && wi finding 1048577 && wi time 2097152) := by simp [validE, opened]
    have hi := idx_nonneg l no
    repeat' (first
      | (with_reducible refine Fresh.intro fun b hb => ?_) <;> (try simp -dsimp -implicitDefEqProofs [*] at hb)
      | (with_reducible refine Rets.xcall (refCheck_spec _ _ _) ?_)
      | (with_reducible refine Rets.xsoft (refCheck_spec _ _ _) ?_)
      | (with_reducible refine xlateCall_of (fun _ => refCheck_spec _ _ _) ?_)
      | (with_reducible refine Rets.xcall (id_spec ..) ?_)
      | (with_reducible refine Rets.xsoft (id_spec ..) ?_)
      | (with_reducible refine xlateCall_of (fun _ => id_spec ..) ?_)
      | (with_reducible refine Rets.xcall (moment_spec ..) ?_)
      | (with_reducible refine Rets.xsoft (moment_spec ..) ?_)
      | (with_reducible refine xlateCall_of (fun _ => moment_spec ..) ?_)
      | (with_reducible refine Rets.xcall (refIndex_spec _ _ _ (by omega) _) ?_)
      | (with_reducible refine Rets.xsoft (refIndex_spec _ _ _ (by omega) _) ?_)
      | (with_reducible refine xlateCall_of (fun _ => refIndex_spec _ _ _ (by omega) _) ?_)
      | (with_reducible refine Lit.imm ?_)
      | ((with_reducible refine Grow.intro ?_ fun b cap hb hc1 hc2 => ?_); omega) <;> (try simp -dsimp -implicitDefEqProofs [*] at hb)
      | (with_reducible refine DrawLate.intro [] ?_)
      | (with_reducible refine Cls_and ?_ ?_)
      | (with_reducible exact Cls.self _ _)
      | (with_reducible refine Cls_same ?_)
      | (with_reducible refine Cls_in ?_ ?_)
      | (with_reducible refine Cls_fresh ?_ ?_)
      | (with_reducible refine And.intro (fun h => ?_) (fun h => ?_)) <;> (try (exfalso; omega))
      | (with_reducible refine And.intro (fun h => ?_) ?_) <;> (try (exfalso; omega))
      | ((with_reducible refine and_keep ?_ fun hk => ?_); omega)
      | (simp -dsimp -implicitDefEqProofs [*]))
    · refine .nil2 (.same ⟨?_, rfl⟩)
      simp_all [openL, openN]
    · refine .nil2 (.same ⟨?_, rfl⟩)
      have : l.length = 1024 := by omega
      simp_all [openL, openN]
    · have hres : PEnd.ret (.tuple [Review.lst false (ins l (pos l no) (opened no finding time)), .int 0]) = PEnd.ret (.tuple [Review.lst false (openL l no finding time), .int (openN l no finding time)]) := by
        have h2 : has l no = false := ‹_›
        have : ¬ l.length = 1024 := by omega
        simp_all [openL, openN]
      refine xloop_for (fun i => [(0, Review.lst t l), (1, .int no), (2, .int finding), (3, .int time), (11, .int (i : Nat))]) (fun _ => st) (fun i => i ≤ l.length ∧ ∀ k, k < i → ∀ h : k < l.length, l[k].no < no) (fun i => l.length - i) 0 ?_ ?_ ?_ ?_
      · exact ⟨Nat.zero_le _, fun k h => by omega⟩
      · simp
      · simp
      clear hc hv hi
      rintro i ⟨hi, hp⟩
      have hw := wrap_succ (n := i) (by omega)
      have hfold : [PV.int no, PV.int finding, PV.int time, PV.int (-1), PV.int 0] = (opened no finding time).enc := rfl
      have hpos : (∀ h : i < l.length, no ≤ l[i].no) → pos l no = i := fun hge => by
        unfold pos
        rcases Nat.lt_or_ge i l.length with hil | hil
        · rw [List.findIdx_eq hil]
          exact ⟨by simpa using hge hil, fun k hk => by simpa using hp k hk (by omega)⟩
        · rw [List.findIdx_eq_length.2]
          · omega
          · intro x hx
            obtain ⟨k, hk, rfl⟩ := List.mem_iff_getElem.1 hx
            simpa using hp k (by omega) hk
      have hlt : (Review.row l).take (i * 5) = Review.row (l.take i) := Review.row_take l i
      have hld : (Review.row l).drop (i * 5) = Review.row (l.drop i) := Review.row_drop l i
      have hmin : min (i * 5) (l.length * 5) = i * 5 := by omega
      have hsub : l.length * 5 - i * 5 = (l.length - i) * 5 := by omega
      repeat' (first
        | (with_reducible refine Fresh.intro fun b hb => ?_) <;> (try simp -dsimp -implicitDefEqProofs [*] at hb)
        | (with_reducible refine Lit.imm ?_)
        | ((with_reducible refine Grow.intro ?_ fun b cap hb hc1 hc2 => ?_); omega) <;> (try simp -dsimp -implicitDefEqProofs [*] at hb)
        | (with_reducible refine DrawLate.intro [] ?_)
        | (with_reducible refine Cls_and ?_ ?_)
        | (with_reducible exact Cls.self _ _)
        | (with_reducible refine Cls_same ?_)
        | (with_reducible refine Cls_in ?_ ?_)
        | (with_reducible refine Cls_fresh ?_ ?_)
        | (with_reducible refine And.intro (fun h => ?_) (fun h => ?_)) <;> (try (exfalso; omega))
        | (with_reducible refine And.intro (fun h => ?_) ?_) <;> (try (exfalso; omega))
        | ((with_reducible refine and_keep ?_ fun hk => ?_); omega)
        | (simp -dsimp -implicitDefEqProofs [hfold, -xappend_list, *]))
      · refine Next.intro (i + 1) ⟨by omega, fun k hk' h' => ?_⟩ (by omega) (by simp [hw]) (by simp)
        rcases Nat.lt_or_ge k i with hki | hki
        · exact hp k hki h'
        · obtain rfl : k = i := by omega
          exact h
      · have hpi := hpos fun _ => h
        rw [hpi] at hres
        refine xappend_accQ Review.row_len Review.row_append (none : Option (Acc Review)) trivial (l.take i) rfl (by simp; omega) (by simp; omega) fun o1 ho1 hl1 => ?_
        refine Cls_and (Cls_acc ho1 (Cls.self _ _)) ?_
        repeat' (first
          | (with_reducible refine Fresh.intro fun b hb => ?_) <;> (try simp -dsimp -implicitDefEqProofs [*] at hb)
          | (with_reducible refine Lit.imm ?_)
          | ((with_reducible refine Grow.intro ?_ fun b cap hb hc1 hc2 => ?_); omega) <;> (try simp -dsimp -implicitDefEqProofs [*] at hb)
          | (with_reducible refine DrawLate.intro [] ?_)
          | (with_reducible refine Cls_and ?_ ?_)
          | (with_reducible exact Cls.self _ _)
          | (with_reducible refine Cls_same ?_)
          | (with_reducible refine Cls_in ?_ ?_)
          | (with_reducible refine Cls_fresh ?_ ?_)
          | (with_reducible refine And.intro (fun h => ?_) (fun h => ?_)) <;> (try (exfalso; omega))
          | (with_reducible refine And.intro (fun h => ?_) ?_) <;> (try (exfalso; omega))
          | ((with_reducible refine and_keep ?_ fun hk => ?_); omega)
          | (simp -dsimp -implicitDefEqProofs [-xappend_list, *]))
        refine xappend_accQ Review.row_len Review.row_append o1 ho1 [opened no finding time] (by simp) (by simp) (by simp [hl1]; omega) fun o2 ho2 hl2 => ?_
        refine Cls_and (Cls_acc ho2 (Cls.self _ _)) ?_
        repeat' (first
          | (with_reducible refine Fresh.intro fun b hb => ?_) <;> (try simp -dsimp -implicitDefEqProofs [*] at hb)
          | (with_reducible refine Lit.imm ?_)
          | ((with_reducible refine Grow.intro ?_ fun b cap hb hc1 hc2 => ?_); omega) <;> (try simp -dsimp -implicitDefEqProofs [*] at hb)
          | (with_reducible refine DrawLate.intro [] ?_)
          | (with_reducible refine Cls_and ?_ ?_)
          | (with_reducible exact Cls.self _ _)
          | (with_reducible refine Cls_same ?_)
          | (with_reducible refine Cls_in ?_ ?_)
          | (with_reducible refine Cls_fresh ?_ ?_)
          | (with_reducible refine And.intro (fun h => ?_) (fun h => ?_)) <;> (try (exfalso; omega))
          | (with_reducible refine And.intro (fun h => ?_) ?_) <;> (try (exfalso; omega))
          | ((with_reducible refine and_keep ?_ fun hk => ?_); omega)
          | (simp -dsimp -implicitDefEqProofs [-xappend_list, *]))
        refine xappend_accQ Review.row_len Review.row_append o2 ho2 (l.drop i) rfl (by simp) (by simp [hl1, hl2]; omega) fun o3 ho3 hl3 => ?_
        refine Cls_and (Cls_acc ho3 (Cls.self _ _)) ?_
        repeat' (first
          | (with_reducible refine Fresh.intro fun b hb => ?_) <;> (try simp -dsimp -implicitDefEqProofs [*] at hb)
          | (with_reducible refine Lit.imm ?_)
          | ((with_reducible refine Grow.intro ?_ fun b cap hb hc1 hc2 => ?_); omega) <;> (try simp -dsimp -implicitDefEqProofs [*] at hb)
          | (with_reducible refine DrawLate.intro [] ?_)
          | (with_reducible refine Cls_and ?_ ?_)
          | (with_reducible exact Cls.self _ _)
          | (with_reducible refine Cls_same ?_)
          | (with_reducible refine Cls_in ?_ ?_)
          | (with_reducible refine Cls_fresh ?_ ?_)
          | (with_reducible refine And.intro (fun h => ?_) (fun h => ?_)) <;> (try (exfalso; omega))
          | (with_reducible refine And.intro (fun h => ?_) ?_) <;> (try (exfalso; omega))
          | ((with_reducible refine and_keep ?_ fun hk => ?_); omega)
          | (simp -dsimp -implicitDefEqProofs [-xappend_list, *]))
        refine .accQ2 rfl ho3 (.fresh1 hb (.same ⟨?_, rfl⟩))
        have hl : accL o3 = ins l i (opened no finding time) := by rw [hl3, hl2, hl1]; simp [ins]
        rw [hl]
        exact hres
      · have hpi := hpos fun h => by omega
        rw [hpi] at hres
        refine xappend_accQ Review.row_len Review.row_append (none : Option (Acc Review)) trivial (l.take i) rfl (by simp; omega) (by simp; omega) fun o1 ho1 hl1 => ?_
        refine Cls_and (Cls_acc ho1 (Cls.self _ _)) ?_
        repeat' (first
          | (with_reducible refine Fresh.intro fun b hb => ?_) <;> (try simp -dsimp -implicitDefEqProofs [*] at hb)
          | (with_reducible refine Lit.imm ?_)
          | ((with_reducible refine Grow.intro ?_ fun b cap hb hc1 hc2 => ?_); omega) <;> (try simp -dsimp -implicitDefEqProofs [*] at hb)
          | (with_reducible refine DrawLate.intro [] ?_)
          | (with_reducible refine Cls_and ?_ ?_)
          | (with_reducible exact Cls.self _ _)
          | (with_reducible refine Cls_same ?_)
          | (with_reducible refine Cls_in ?_ ?_)
          | (with_reducible refine Cls_fresh ?_ ?_)
          | (with_reducible refine And.intro (fun h => ?_) (fun h => ?_)) <;> (try (exfalso; omega))
          | (with_reducible refine And.intro (fun h => ?_) ?_) <;> (try (exfalso; omega))
          | ((with_reducible refine and_keep ?_ fun hk => ?_); omega)
          | (simp -dsimp -implicitDefEqProofs [-xappend_list, *]))
        refine xappend_accQ Review.row_len Review.row_append o1 ho1 [opened no finding time] (by simp) (by simp) (by simp [hl1]; omega) fun o2 ho2 hl2 => ?_
        refine Cls_and (Cls_acc ho2 (Cls.self _ _)) ?_
        repeat' (first
          | (with_reducible refine Fresh.intro fun b hb => ?_) <;> (try simp -dsimp -implicitDefEqProofs [*] at hb)
          | (with_reducible refine Lit.imm ?_)
          | ((with_reducible refine Grow.intro ?_ fun b cap hb hc1 hc2 => ?_); omega) <;> (try simp -dsimp -implicitDefEqProofs [*] at hb)
          | (with_reducible refine DrawLate.intro [] ?_)
          | (with_reducible refine Cls_and ?_ ?_)
          | (with_reducible exact Cls.self _ _)
          | (with_reducible refine Cls_same ?_)
          | (with_reducible refine Cls_in ?_ ?_)
          | (with_reducible refine Cls_fresh ?_ ?_)
          | (with_reducible refine And.intro (fun h => ?_) (fun h => ?_)) <;> (try (exfalso; omega))
          | (with_reducible refine And.intro (fun h => ?_) ?_) <;> (try (exfalso; omega))
          | ((with_reducible refine and_keep ?_ fun hk => ?_); omega)
          | (simp -dsimp -implicitDefEqProofs [-xappend_list, *]))
        refine xappend_accQ Review.row_len Review.row_append o2 ho2 (l.drop i) rfl (by simp; omega) (by simp [hl1, hl2]; omega) fun o3 ho3 hl3 => ?_
        refine Cls_and (Cls_acc ho3 (Cls.self _ _)) ?_
        repeat' (first
          | (with_reducible refine Fresh.intro fun b hb => ?_) <;> (try simp -dsimp -implicitDefEqProofs [*] at hb)
          | (with_reducible refine Lit.imm ?_)
          | ((with_reducible refine Grow.intro ?_ fun b cap hb hc1 hc2 => ?_); omega) <;> (try simp -dsimp -implicitDefEqProofs [*] at hb)
          | (with_reducible refine DrawLate.intro [] ?_)
          | (with_reducible refine Cls_and ?_ ?_)
          | (with_reducible exact Cls.self _ _)
          | (with_reducible refine Cls_same ?_)
          | (with_reducible refine Cls_in ?_ ?_)
          | (with_reducible refine Cls_fresh ?_ ?_)
          | (with_reducible refine And.intro (fun h => ?_) (fun h => ?_)) <;> (try (exfalso; omega))
          | (with_reducible refine And.intro (fun h => ?_) ?_) <;> (try (exfalso; omega))
          | ((with_reducible refine and_keep ?_ fun hk => ?_); omega)
          | (simp -dsimp -implicitDefEqProofs [-xappend_list, *]))
        refine .accQ2 rfl ho3 (.fresh1 hb (.same ⟨?_, rfl⟩))
        have hl : accL o3 = ins l i (opened no finding time) := by rw [hl3, hl2, hl1]; simp [ins]
        rw [hl]
        exact hres
    all_goals (refine .nil2 (.same ⟨?_, rfl⟩); simp_all [openL, openN])
  · repeat' (first
      | (with_reducible refine Fresh.intro fun b hb => ?_) <;> (try simp -dsimp -implicitDefEqProofs [*] at hb)
      | (with_reducible refine Rets.xcall (refCheck_spec _ _ _) ?_)
      | (with_reducible refine Rets.xsoft (refCheck_spec _ _ _) ?_)
      | (with_reducible refine xlateCall_of (fun _ => refCheck_spec _ _ _) ?_)
      | (with_reducible refine Lit.imm ?_)
      | ((with_reducible refine Grow.intro ?_ fun b cap hb hc1 hc2 => ?_); omega) <;> (try simp -dsimp -implicitDefEqProofs [*] at hb)
      | (with_reducible refine DrawLate.intro [] ?_)
      | (with_reducible refine Cls_and ?_ ?_)
      | (with_reducible exact Cls.self _ _)
      | (with_reducible refine Cls_same ?_)
      | (with_reducible refine Cls_in ?_ ?_)
      | (with_reducible refine Cls_fresh ?_ ?_)
      | (with_reducible refine And.intro (fun h => ?_) (fun h => ?_)) <;> (try (exfalso; omega))
      | (with_reducible refine And.intro (fun h => ?_) ?_) <;> (try (exfalso; omega))
      | ((with_reducible refine and_keep ?_ fun hk => ?_); omega)
      | (simp -dsimp -implicitDefEqProofs [*]))
    refine .nil2 (.same ⟨?_, rfl⟩)
    simp_all [openL, openN]
theorem refClose_spec (t : Bool) (l : List Review) (no time verdict : Int) (st : Store) : Rets P F.podiumref44_Close [Review.lst t l, .int no, .int time, .int verdict] st (.tuple [Review.lst false (closeL l no time verdict), .int (closeN l no time verdict)]) := by
  refine H.podiumref44_Close.view hmix rfl rfl ?_
  by_cases hc : checkE l = 0
  · obtain ⟨hl, hok⟩ := checkE_zero.1 hc
    by_cases hh : has l no = true
    · obtain ⟨hp, hno⟩ := (has_iff hok no).1 hh
      have hi := idx_pos hok hh
      have hval : validE l[pos l no] = true := hok.1 _ (List.getElem_mem hp)
      generalize hpos : pos l no = i at *
      have hsv : l[i].closed = -1 → 0 ≤ time → (validE (shut l[i] time verdict) = true ↔ l[i].opened ≤ time ∧ wi time 2097152 = true ∧ (verdict = 1 ∨ verdict = 2)) := by
        intro hcl h0
        simp [validE, hcl] at hval
        have ht : ¬ time = -1 := by omega
        obtain ⟨⟨⟨h1, h2⟩, h3⟩, -⟩ := hval
        have e : validE (shut l[i] time verdict) = (decide (l[i].opened ≤ time) && wi time 2097152 && (decide (verdict = 1) || decide (verdict = 2))) := by
          have : validE (shut l[i] time verdict) = (wi l[i].no 1048577 && wi l[i].finding 1048577 && wi l[i].opened 2097152 && if time = -1 then decide (verdict = 0) else decide (l[i].opened ≤ time) && wi time 2097152 && (decide (verdict = 1) || decide (verdict = 2))) := rfl
          rw [this, h1, h2, h3, if_neg ht]; rfl
        rw [e]
        simp [and_assoc]
      have hN : closeN l no time verdict = if l[i].closed = -1 ∧ l[i].opened ≤ time ∧ wi time 2097152 = true ∧ (verdict = 1 ∨ verdict = 2) then 0 else 1 := by
        simp only [closeN, hc, hpos, ne_eq, not_true_eq_false, if_false, List.getElem?_eq_getElem hp]
        by_cases hcl : l[i].closed = -1
        · by_cases h0 : 0 ≤ time
          · have := hsv hcl h0
            simp only [hno, hcl, h0, true_and, this]
          · have : ¬ wi time 2097152 = true := by simp [wi]; omega
            simp [h0, this]
        · simp [hcl]
      by_cases hg : l[i].closed = -1 ∧ l[i].opened ≤ time ∧ wi time 2097152 = true ∧ (verdict = 1 ∨ verdict = 2)
      · have hN0 : closeN l no time verdict = 0 := by rw [hN, if_pos hg]
        have hL : closeL l no time verdict = l.set i (shut l[i] time verdict) := by
          simp [closeL, hN0, hpos, hp]
        obtain ⟨hg1, hg2, hg3, hg4⟩ := hg
        rw [hN0, hL]
        clear hN hsv hval
        have hs1 : ∀ C, (Review.row l ++ C).set (i * 5 + 3) (.int time) = Review.row (l.set i (shut1 l[i] time)) ++ C := fun C => own_setj Review.len hp (by omega) rfl
        have hs2 : ∀ C, (Review.row (l.set i (shut1 l[i] time)) ++ C).set (i * 5 + 4) (.int verdict) = Review.row (l.set i (shut l[i] time verdict)) ++ C := fun C => by
          have := own_setj (C := C) (l := l.set i (shut1 l[i] time)) (i := i) (j := 4) (v := .int verdict) (x' := shut l[i] time verdict) Review.len (by simpa using hp) (by omega) (by simp [Review.enc, shut, shut1])
          rw [List.set_set] at this
          exact this
        have htk : ∀ C, (Review.row (l.set i (shut l[i] time verdict)) ++ C).take (l.length * 5) = Review.row (l.set i (shut l[i] time verdict)) := fun C => List.take_left' (by simp)
        repeat' (first
          | (with_reducible refine Fresh.intro fun b hb => ?_) <;> (try simp -dsimp -implicitDefEqProofs [*] at hb)
          | (with_reducible refine Rets.xcall (refCheck_spec _ _ _) ?_)
          | (with_reducible refine Rets.xsoft (refCheck_spec _ _ _) ?_)
          | (with_reducible refine xlateCall_of (fun _ => refCheck_spec _ _ _) ?_)
          | (with_reducible refine Rets.xcall (moment_spec ..) ?_)
          | (with_reducible refine Rets.xsoft (moment_spec ..) ?_)
          | (with_reducible refine xlateCall_of (fun _ => moment_spec ..) ?_)
          | (with_reducible refine Rets.xcall (refIndex_spec _ _ _ (by omega) _) ?_)
          | (with_reducible refine Rets.xsoft (refIndex_spec _ _ _ (by omega) _) ?_)
          | (with_reducible refine xlateCall_of (fun _ => refIndex_spec _ _ _ (by omega) _) ?_)
          | (with_reducible refine Lit.imm ?_)
          | ((with_reducible refine Grow.intro ?_ fun b cap hb hc1 hc2 => ?_); omega) <;> (try simp -dsimp -implicitDefEqProofs [*] at hb)
          | (with_reducible refine RetView.nil2 ?_)
          | (with_reducible refine RetView.nil1 ?_)
          | (with_reducible refine RetView.loose2 (t := true) ?_)
          | (with_reducible refine RetView.loose1 (t := true) ?_)
          | (with_reducible refine RetView.fz 5 ?_ ?_)
          | (with_reducible refine RetView.same ?_)
          | (with_reducible refine DrawLate.intro [] ?_)
          | (with_reducible refine Cls_and ?_ ?_)
          | (with_reducible exact Cls.self _ _)
          | (with_reducible refine Cls_same ?_)
          | (with_reducible refine Cls_in ?_ ?_)
          | (with_reducible refine Cls_fresh ?_ ?_)
          | (with_reducible refine And.intro (fun h => ?_) (fun h => ?_)) <;> (try (exfalso; omega))
          | (with_reducible refine And.intro (fun h => ?_) ?_) <;> (try (exfalso; omega))
          | ((with_reducible refine and_keep ?_ fun hk => ?_); omega)
          | (simp -dsimp -implicitDefEqProofs [*]))
        all_goals (subst h; simp at hp)
      · have hN0 : closeN l no time verdict = 1 := by rw [hN, if_neg hg]
        have hL : closeL l no time verdict = [] := by simp [closeL, hN0]
        rw [hN0, hL]
        clear hN hsv hval
        repeat' (first
          | (with_reducible refine Fresh.intro fun b hb => ?_) <;> (try simp -dsimp -implicitDefEqProofs [*] at hb)
          | (with_reducible refine Rets.xcall (refCheck_spec _ _ _) ?_)
          | (with_reducible refine Rets.xsoft (refCheck_spec _ _ _) ?_)
          | (with_reducible refine xlateCall_of (fun _ => refCheck_spec _ _ _) ?_)
          | (with_reducible refine Rets.xcall (moment_spec ..) ?_)
          | (with_reducible refine Rets.xsoft (moment_spec ..) ?_)
          | (with_reducible refine xlateCall_of (fun _ => moment_spec ..) ?_)
          | (with_reducible refine Rets.xcall (refIndex_spec _ _ _ (by omega) _) ?_)
          | (with_reducible refine Rets.xsoft (refIndex_spec _ _ _ (by omega) _) ?_)
          | (with_reducible refine xlateCall_of (fun _ => refIndex_spec _ _ _ (by omega) _) ?_)
          | (with_reducible refine Lit.imm ?_)
          | ((with_reducible refine Grow.intro ?_ fun b cap hb hc1 hc2 => ?_); omega) <;> (try simp -dsimp -implicitDefEqProofs [*] at hb)
          | (with_reducible refine RetView.nil2 ?_)
          | (with_reducible refine RetView.nil1 ?_)
          | (with_reducible refine RetView.loose2 (t := true) ?_)
          | (with_reducible refine RetView.loose1 (t := true) ?_)
          | (with_reducible refine RetView.fz 5 ?_ ?_)
          | (with_reducible refine RetView.same ?_)
          | (with_reducible refine DrawLate.intro [] ?_)
          | (with_reducible refine Cls_and ?_ ?_)
          | (with_reducible exact Cls.self _ _)
          | (with_reducible refine Cls_same ?_)
          | (with_reducible refine Cls_in ?_ ?_)
          | (with_reducible refine Cls_fresh ?_ ?_)
          | (with_reducible refine And.intro (fun h => ?_) (fun h => ?_)) <;> (try (exfalso; omega))
          | (with_reducible refine And.intro (fun h => ?_) ?_) <;> (try (exfalso; omega))
          | ((with_reducible refine and_keep ?_ fun hk => ?_); omega)
          | (simp -dsimp -implicitDefEqProofs [*]))
        all_goals (try omega)
        all_goals (try (simp_all; done))
        all_goals (try (exact absurd ⟨‹_›, ‹_›, ‹_›, by omega⟩ hg))
        all_goals trace_state
        all_goals sorry
    · have hN0 : closeN l no time verdict = 1 := by
        have hno := mt (has_iff hok no).2 hh
        unfold closeN
        rw [if_neg (by simp [hc])]
        split
        · rename_i e he
          rw [List.getElem?_eq_some_iff] at he
          obtain ⟨h1, h2⟩ := he
          rw [if_neg (fun h => hno ⟨h1, by rw [h2]; exact h.1⟩)]
        · rfl
      have hL : closeL l no time verdict = [] := by simp [closeL, hN0]
      have hi : idx l no = -1 := by rw [idx, if_neg hh]
      rw [hN0, hL]
      repeat' (first
        | (with_reducible refine Fresh.intro fun b hb => ?_) <;> (try simp -dsimp -implicitDefEqProofs [*] at hb)
        | (with_reducible refine Rets.xcall (refCheck_spec _ _ _) ?_)
        | (with_reducible refine Rets.xsoft (refCheck_spec _ _ _) ?_)
        | (with_reducible refine xlateCall_of (fun _ => refCheck_spec _ _ _) ?_)
        | (with_reducible refine Rets.xcall (moment_spec ..) ?_)
        | (with_reducible refine Rets.xsoft (moment_spec ..) ?_)
        | (with_reducible refine xlateCall_of (fun _ => moment_spec ..) ?_)
        | (with_reducible refine Rets.xcall (refIndex_spec _ _ _ (by omega) _) ?_)
        | (with_reducible refine Rets.xsoft (refIndex_spec _ _ _ (by omega) _) ?_)
        | (with_reducible refine xlateCall_of (fun _ => refIndex_spec _ _ _ (by omega) _) ?_)
        | (with_reducible refine Lit.imm ?_)
        | ((with_reducible refine Grow.intro ?_ fun b cap hb hc1 hc2 => ?_); omega) <;> (try simp -dsimp -implicitDefEqProofs [*] at hb)
        | (with_reducible refine RetView.nil2 ?_)
        | (with_reducible refine RetView.nil1 ?_)
        | (with_reducible refine RetView.loose2 (t := true) ?_)
        | (with_reducible refine RetView.loose1 (t := true) ?_)
        | (with_reducible refine RetView.fz 5 ?_ ?_)
        | (with_reducible refine RetView.same ?_)
        | (with_reducible refine DrawLate.intro [] ?_)
        | (with_reducible refine Cls_and ?_ ?_)
        | (with_reducible exact Cls.self _ _)
        | (with_reducible refine Cls_same ?_)
        | (with_reducible refine Cls_in ?_ ?_)
        | (with_reducible refine Cls_fresh ?_ ?_)
        | (with_reducible refine And.intro (fun h => ?_) (fun h => ?_)) <;> (try (exfalso; omega))
        | (with_reducible refine And.intro (fun h => ?_) ?_) <;> (try (exfalso; omega))
        | ((with_reducible refine and_keep ?_ fun hk => ?_); omega)
        | (simp -dsimp -implicitDefEqProofs [*]))
  · have hN0 : closeN l no time verdict = checkE l := by simp [closeN, hc]
    have hL : closeL l no time verdict = [] := by simp [closeL, hN0, hc]
    rw [hN0, hL]
    repeat' (first
      | (with_reducible refine Fresh.intro fun b hb => ?_) <;> (try simp -dsimp -implicitDefEqProofs [*] at hb)
      | (with_reducible refine Rets.xcall (refCheck_spec _ _ _) ?_)
      | (with_reducible refine Rets.xsoft (refCheck_spec _ _ _) ?_)
      | (with_reducible refine xlateCall_of (fun _ => refCheck_spec _ _ _) ?_)
      | (with_reducible refine Lit.imm ?_)
      | ((with_reducible refine Grow.intro ?_ fun b cap hb hc1 hc2 => ?_); omega) <;> (try simp -dsimp -implicitDefEqProofs [*] at hb)
      | (with_reducible refine RetView.nil2 ?_)
      | (with_reducible refine RetView.nil1 ?_)
      | (with_reducible refine RetView.loose2 (t := true) ?_)
      | (with_reducible refine RetView.loose1 (t := true) ?_)
      | (with_reducible refine RetView.fz 5 ?_ ?_)
      | (with_reducible refine RetView.same ?_)
      | (with_reducible refine DrawLate.intro [] ?_)
      | (with_reducible refine Cls_and ?_ ?_)
      | (with_reducible exact Cls.self _ _)
      | (with_reducible refine Cls_same ?_)
      | (with_reducible refine Cls_in ?_ ?_)
      | (with_reducible refine Cls_fresh ?_ ?_)
      | (with_reducible refine And.intro (fun h => ?_) (fun h => ?_)) <;> (try (exfalso; omega))
      | (with_reducible refine And.intro (fun h => ?_) ?_) <;> (try (exfalso; omega))
      | ((with_reducible refine and_keep ?_ fun hk => ?_); omega)
      | (simp -dsimp -implicitDefEqProofs [*]))
end Go.Proofs.Ytbjfmedpaohpnaa
