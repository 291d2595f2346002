/- The reference's One and Apply. -/
import Derived.Test.YthkjdppifnmakaaS51S
namespace Go.Proofs.Ythkjdppifnmakaa
open Go.Pv
set_option maxRecDepth 100000
set_option maxHeartbeats 4000000
def posE (l : List Event) (n : Int) : Nat := l.findIdx fun e => decide (n ≤ e.no)
def oneE (l : List Event) (d : Decision) : List Event :=
  match l.findIdx? (fun e => decide (e.no = subj d)) with
  | some i => if d.kind = 1 then l.take i ++ l.drop (i + 1) else if d.kind = 2 ∧ rightE (setVal (l.getD i default) d.value) = true then l.take i ++ setVal (l.getD i default) d.value :: l.drop (i + 1) else l
  | none => if d.kind = 3 then l.take (posE l d.eno) ++ d.event :: l.drop (posE l d.eno) else l
theorem setVal_enc (e : Event) (v : Int) : [PV.int e.no, PV.int e.kind, PV.int e.round, PV.int e.entry, PV.int e.judge, PV.int e.item, PV.int v, PV.int e.at', PV.int e.known] = (setVal e v).enc := rfl
theorem one_spec (t : Bool) (l : List Event) (hl : l.length ≤ 100000) (d : Decision) (st : Store) : Rets P F.podiumref51_One [Event.lst t l, d.pv] st (Event.lst false (oneE l d)) := by
  refine H.podiumref51_One.view hmix rfl rfl ?_
  have hfd := find_spec t l hl (subj d)
  cases hf : l.findIdx? (fun e => decide (e.no = subj d)) with
  | some i =>
    have hi : i < l.length := by rw [List.findIdx?_eq_some_iff_getElem] at hf; exact hf.1
    have hfe : findE l (subj d) = (i : Int) := by simp [findE, hf]
    rw [hfe] at hfd
    have hone : Hid (oneE l d = if d.kind = 1 then l.take i ++ l.drop (i + 1) else if d.kind = 2 ∧ rightE (setVal l[i] d.value) = true then l.take i ++ setVal l[i] d.value :: l.drop (i + 1) else l) := ⟨by unfold oneE; rw [hf]; simp [hi]⟩
    have hw := wrap_succ (n := i) (by omega)
    have hlt : (Event.row l).take (i * 9) = Event.row (l.take i) := Event.row_take l i
    have hld : (Event.row l).drop ((i + 1) * 9) = Event.row (l.drop (i + 1)) := Event.row_drop l (i + 1)
    have hmin : min (i * 9) (l.length * 9) = i * 9 := by omega
    have hsub : l.length * 9 - (i + 1) * 9 = (l.length - (i + 1)) * 9 := by omega
    have ht1 : ((i : Int) + 1).toNat = i + 1 := by omega
    clear hfe hf
    by_cases k1 : d.kind = 1
    · repeat' (first
        | (with_reducible refine Fresh.intro fun b hb => ?_) <;> (try simp -dsimp -implicitDefEqProofs [*] at hb)
        | (with_reducible refine Rets.xcall (subject_spec _ _) ?_)
        | (with_reducible refine Rets.xsoft (subject_spec _ _) ?_)
        | (with_reducible refine xlateCall_of (fun _ => subject_spec _ _) ?_)
        | (with_reducible refine Rets.xcall (hfd _) ?_)
        | (with_reducible refine Rets.xsoft (hfd _) ?_)
        | (with_reducible refine xlateCall_of (fun _ => hfd _) ?_)
        | (with_reducible refine Lit.imm ?_)
        | ((with_reducible refine Grow.intro ?_ fun b cap hb hc1 hc2 => ?_); omega) <;> (try simp -dsimp -implicitDefEqProofs [*] at hb)
        | (with_reducible refine DrawLate.intro [] ?_)
        | (with_reducible refine Cls_and ?_ ?_)
        | (with_reducible exact Cls.self _ _)
        | (with_reducible refine Cls_same ?_)
        | (with_reducible refine Cls_in ?_ ?_)
        | (with_reducible refine Cls_fresh ?_ ?_)
        | (with_reducible refine And.intro (fun h => ?_) (fun h => ?_)) <;> (try (exfalso; omega))
        | (with_reducible refine And.intro (fun h => ?_) ?_) <;> (try (exfalso; omega))
        | ((with_reducible refine and_keep ?_ fun hk => ?_); omega)
        | (simp -dsimp -implicitDefEqProofs [-xappend_list, *]))
      refine xappend_accQ Event.row_len Event.row_append (none : Option (Acc Event)) trivial (l.take i) rfl (by simp; omega) (by simp; omega) fun o1 ho1 hl1 => ?_
      refine Cls_and (Cls_acc ho1 (Cls.self _ _)) ?_
      repeat' (first
        | (with_reducible refine Fresh.intro fun b hb => ?_) <;> (try simp -dsimp -implicitDefEqProofs [*] at hb)
        | (with_reducible refine Lit.imm ?_)
        | ((with_reducible refine Grow.intro ?_ fun b cap hb hc1 hc2 => ?_); omega) <;> (try simp -dsimp -implicitDefEqProofs [*] at hb)
        | (with_reducible refine DrawLate.intro [] ?_)
        | (with_reducible refine Cls_and ?_ ?_)
        | (with_reducible exact Cls.self _ _)
        | (with_reducible refine Cls_same ?_)
        | (with_reducible refine Cls_in ?_ ?_)
        | (with_reducible refine Cls_fresh ?_ ?_)
        | (with_reducible refine And.intro (fun h => ?_) (fun h => ?_)) <;> (try (exfalso; omega))
        | (with_reducible refine And.intro (fun h => ?_) ?_) <;> (try (exfalso; omega))
        | ((with_reducible refine and_keep ?_ fun hk => ?_); omega)
        | (simp -dsimp -implicitDefEqProofs [-xappend_list, *]))
      refine xappend_accQ Event.row_len Event.row_append o1 ho1 (l.drop (i + 1)) rfl (by simp) (by simp [hl1]; omega) fun o2 ho2 hl2 => ?_
      refine Cls_and (Cls_acc ho2 (Cls.self _ _)) ?_
      repeat' (first
        | (with_reducible refine Fresh.intro fun b hb => ?_) <;> (try simp -dsimp -implicitDefEqProofs [*] at hb)
        | (with_reducible refine Lit.imm ?_)
        | ((with_reducible refine Grow.intro ?_ fun b cap hb hc1 hc2 => ?_); omega) <;> (try simp -dsimp -implicitDefEqProofs [*] at hb)
        | (with_reducible refine DrawLate.intro [] ?_)
        | (with_reducible refine Cls_and ?_ ?_)
        | (with_reducible exact Cls.self _ _)
        | (with_reducible refine Cls_same ?_)
        | (with_reducible refine Cls_in ?_ ?_)
        | (with_reducible refine Cls_fresh ?_ ?_)
        | (with_reducible refine And.intro (fun h => ?_) (fun h => ?_)) <;> (try (exfalso; omega))
        | (with_reducible refine And.intro (fun h => ?_) ?_) <;> (try (exfalso; omega))
        | ((with_reducible refine and_keep ?_ fun hk => ?_); omega)
        | (simp -dsimp -implicitDefEqProofs [-xappend_list, *]))
      have e : accL o2 = oneE l d := by rw [hl2, hl1, hone.out]; simp [k1]
      exact .accQ1 rfl ho2 (.fresh1 hb (.same ⟨by rw [e], rfl⟩))
    by_cases k2 : d.kind = 2
    · cases hr : rightE (setVal l[i] d.value) with
      | true =>
        have hev := event_spec (setVal l[i] d.value)
        rw [hr] at hev
        generalize hx : setVal l[i] d.value = x at *
        have hxm : Event.mk (l[i]'hi).no (l[i]'hi).kind (l[i]'hi).round (l[i]'hi).entry (l[i]'hi).judge (l[i]'hi).item d.value (l[i]'hi).at' (l[i]'hi).known = x := hx
        repeat' (first
          | (with_reducible refine Fresh.intro fun b hb => ?_) <;> (try simp -dsimp -implicitDefEqProofs [*] at hb)
          | (with_reducible refine Rets.xcall (subject_spec _ _) ?_)
          | (with_reducible refine Rets.xsoft (subject_spec _ _) ?_)
          | (with_reducible refine xlateCall_of (fun _ => subject_spec _ _) ?_)
          | (with_reducible refine Rets.xcall (hfd _) ?_)
          | (with_reducible refine Rets.xsoft (hfd _) ?_)
          | (with_reducible refine xlateCall_of (fun _ => hfd _) ?_)
          | (with_reducible refine Rets.xcall (hev _) ?_)
          | (with_reducible refine Rets.xsoft (hev _) ?_)
          | (with_reducible refine xlateCall_of (fun _ => hev _) ?_)
          | (with_reducible refine Lit.imm ?_)
          | ((with_reducible refine Grow.intro ?_ fun b cap hb hc1 hc2 => ?_); omega) <;> (try simp -dsimp -implicitDefEqProofs [*] at hb)
          | (with_reducible refine DrawLate.intro [] ?_)
          | (with_reducible refine Cls_and ?_ ?_)
          | (with_reducible exact Cls.self _ _)
          | (with_reducible refine Cls_same ?_)
          | (with_reducible refine Cls_in ?_ ?_)
          | (with_reducible refine Cls_fresh ?_ ?_)
          | (with_reducible refine And.intro (fun h => ?_) (fun h => ?_)) <;> (try (exfalso; omega))
          | (with_reducible refine And.intro (fun h => ?_) ?_) <;> (try (exfalso; omega))
          | ((with_reducible refine and_keep ?_ fun hk => ?_); omega)
          | (simp -dsimp -implicitDefEqProofs [-xappend_list, *]))
        refine xappend_accQ Event.row_len Event.row_append (none : Option (Acc Event)) trivial (l.take i) rfl (by simp; omega) (by simp; omega) fun o1 ho1 hl1 => ?_
        refine Cls_and (Cls_acc ho1 (Cls.self _ _)) ?_
        repeat' (first
          | (with_reducible refine Fresh.intro fun b hb => ?_) <;> (try simp -dsimp -implicitDefEqProofs [*] at hb)
          | (with_reducible refine Lit.imm ?_)
          | ((with_reducible refine Grow.intro ?_ fun b cap hb hc1 hc2 => ?_); omega) <;> (try simp -dsimp -implicitDefEqProofs [*] at hb)
          | (with_reducible refine DrawLate.intro [] ?_)
          | (with_reducible refine Cls_and ?_ ?_)
          | (with_reducible exact Cls.self _ _)
          | (with_reducible refine Cls_same ?_)
          | (with_reducible refine Cls_in ?_ ?_)
          | (with_reducible refine Cls_fresh ?_ ?_)
          | (with_reducible refine And.intro (fun h => ?_) (fun h => ?_)) <;> (try (exfalso; omega))
          | (with_reducible refine And.intro (fun h => ?_) ?_) <;> (try (exfalso; omega))
          | ((with_reducible refine and_keep ?_ fun hk => ?_); omega)
          | (simp -dsimp -implicitDefEqProofs [-xappend_list, *]))
        refine xappend_accQ Event.row_len Event.row_append o1 ho1 ([x]) (by simp) (by simp) (by simp [hl1]; omega) fun o2 ho2 hl2 => ?_
        refine Cls_and (Cls_acc ho2 (Cls.self _ _)) ?_
        repeat' (first
          | (with_reducible refine Fresh.intro fun b hb => ?_) <;> (try simp -dsimp -implicitDefEqProofs [*] at hb)
          | (with_reducible refine Lit.imm ?_)
          | ((with_reducible refine Grow.intro ?_ fun b cap hb hc1 hc2 => ?_); omega) <;> (try simp -dsimp -implicitDefEqProofs [*] at hb)
          | (with_reducible refine DrawLate.intro [] ?_)
          | (with_reducible refine Cls_and ?_ ?_)
          | (with_reducible exact Cls.self _ _)
          | (with_reducible refine Cls_same ?_)
          | (with_reducible refine Cls_in ?_ ?_)
          | (with_reducible refine Cls_fresh ?_ ?_)
          | (with_reducible refine And.intro (fun h => ?_) (fun h => ?_)) <;> (try (exfalso; omega))
          | (with_reducible refine And.intro (fun h => ?_) ?_) <;> (try (exfalso; omega))
          | ((with_reducible refine and_keep ?_ fun hk => ?_); omega)
          | (simp -dsimp -implicitDefEqProofs [-xappend_list, *]))
        refine xappend_accQ Event.row_len Event.row_append o2 ho2 (l.drop (i + 1)) rfl (by simp) (by simp [hl1, hl2]; omega) fun o3 ho3 hl3 => ?_
        refine Cls_and (Cls_acc ho3 (Cls.self _ _)) ?_
        repeat' (first
          | (with_reducible refine Fresh.intro fun b hb => ?_) <;> (try simp -dsimp -implicitDefEqProofs [*] at hb)
          | (with_reducible refine Lit.imm ?_)
          | ((with_reducible refine Grow.intro ?_ fun b cap hb hc1 hc2 => ?_); omega) <;> (try simp -dsimp -implicitDefEqProofs [*] at hb)
          | (with_reducible refine DrawLate.intro [] ?_)
          | (with_reducible refine Cls_and ?_ ?_)
          | (with_reducible exact Cls.self _ _)
          | (with_reducible refine Cls_same ?_)
          | (with_reducible refine Cls_in ?_ ?_)
          | (with_reducible refine Cls_fresh ?_ ?_)
          | (with_reducible refine And.intro (fun h => ?_) (fun h => ?_)) <;> (try (exfalso; omega))
          | (with_reducible refine And.intro (fun h => ?_) ?_) <;> (try (exfalso; omega))
          | ((with_reducible refine and_keep ?_ fun hk => ?_); omega)
          | (simp -dsimp -implicitDefEqProofs [-xappend_list, *]))
        have e : accL o3 = oneE l d := by rw [hl3, hl2, hl1, hone.out]; simp [k2, hr]
        exact .accQ1 rfl ho3 (.fresh1 (by simp [*]) (.fresh1 (by simp [*]) (.same ⟨by rw [e], rfl⟩)))
      | false =>
        have hev := event_spec (setVal l[i] d.value)
        rw [hr] at hev
        have e : oneE l d = l := by rw [hone.out]; simp [k2, hr]
        rw [e]
        generalize hx : setVal l[i] d.value = x at *
        have hxm : Event.mk (l[i]'hi).no (l[i]'hi).kind (l[i]'hi).round (l[i]'hi).entry (l[i]'hi).judge (l[i]'hi).item d.value (l[i]'hi).at' (l[i]'hi).known = x := hx
        repeat' (first
          | (with_reducible refine Fresh.intro fun b hb => ?_) <;> (try simp -dsimp -implicitDefEqProofs [*] at hb)
          | (with_reducible refine Rets.xcall (subject_spec _ _) ?_)
          | (with_reducible refine Rets.xsoft (subject_spec _ _) ?_)
          | (with_reducible refine xlateCall_of (fun _ => subject_spec _ _) ?_)
          | (with_reducible refine Rets.xcall (hfd _) ?_)
          | (with_reducible refine Rets.xsoft (hfd _) ?_)
          | (with_reducible refine xlateCall_of (fun _ => hfd _) ?_)
          | (with_reducible refine Rets.xcall (hev _) ?_)
          | (with_reducible refine Rets.xsoft (hev _) ?_)
          | (with_reducible refine xlateCall_of (fun _ => hev _) ?_)
          | (with_reducible refine Lit.imm ?_)
          | ((with_reducible refine Grow.intro ?_ fun b cap hb hc1 hc2 => ?_); omega) <;> (try simp -dsimp -implicitDefEqProofs [*] at hb)
          | (with_reducible refine DrawLate.intro [] ?_)
          | (with_reducible refine Cls_and ?_ ?_)
          | (with_reducible exact Cls.self _ _)
          | (with_reducible refine Cls_same ?_)
          | (with_reducible refine Cls_in ?_ ?_)
          | (with_reducible refine Cls_fresh ?_ ?_)
          | (with_reducible refine And.intro (fun h => ?_) (fun h => ?_)) <;> (try (exfalso; omega))
          | (with_reducible refine And.intro (fun h => ?_) ?_) <;> (try (exfalso; omega))
          | ((with_reducible refine and_keep ?_ fun hk => ?_); omega)
          | (simp -dsimp -implicitDefEqProofs [-xappend_list, *]))
        exact .fresh1 hb (.fresh1 (by simp [*]) (.loose1 (.same ⟨rfl, rfl⟩)))
    · have e : oneE l d = l := by rw [hone.out]; simp [k1, k2]
      rw [e]
      by_cases k3 : d.kind = 3
      · repeat' (first
          | (with_reducible refine Fresh.intro fun b hb => ?_) <;> (try simp -dsimp -implicitDefEqProofs [*] at hb)
          | (with_reducible refine Rets.xcall (subject_spec _ _) ?_)
          | (with_reducible refine Rets.xsoft (subject_spec _ _) ?_)
          | (with_reducible refine xlateCall_of (fun _ => subject_spec _ _) ?_)
          | (with_reducible refine Rets.xcall (hfd _) ?_)
          | (with_reducible refine Rets.xsoft (hfd _) ?_)
          | (with_reducible refine xlateCall_of (fun _ => hfd _) ?_)
          | (with_reducible refine Lit.imm ?_)
          | ((with_reducible refine Grow.intro ?_ fun b cap hb hc1 hc2 => ?_); omega) <;> (try simp -dsimp -implicitDefEqProofs [*] at hb)
          | (with_reducible refine DrawLate.intro [] ?_)
          | (with_reducible refine Cls_and ?_ ?_)
          | (with_reducible exact Cls.self _ _)
          | (with_reducible refine Cls_same ?_)
          | (with_reducible refine Cls_in ?_ ?_)
          | (with_reducible refine Cls_fresh ?_ ?_)
          | (with_reducible refine And.intro (fun h => ?_) (fun h => ?_)) <;> (try (exfalso; omega))
          | (with_reducible refine And.intro (fun h => ?_) ?_) <;> (try (exfalso; omega))
          | ((with_reducible refine and_keep ?_ fun hk => ?_); omega)
          | (simp -dsimp -implicitDefEqProofs [-xappend_list, *]))
        exact .fresh1 hb (.loose1 (.same ⟨rfl, rfl⟩))
      · repeat' (first
          | (with_reducible refine Fresh.intro fun b hb => ?_) <;> (try simp -dsimp -implicitDefEqProofs [*] at hb)
          | (with_reducible refine Rets.xcall (subject_spec _ _) ?_)
          | (with_reducible refine Rets.xsoft (subject_spec _ _) ?_)
          | (with_reducible refine xlateCall_of (fun _ => subject_spec _ _) ?_)
          | (with_reducible refine Rets.xcall (hfd _) ?_)
          | (with_reducible refine Rets.xsoft (hfd _) ?_)
          | (with_reducible refine xlateCall_of (fun _ => hfd _) ?_)
          | (with_reducible refine Lit.imm ?_)
          | ((with_reducible refine Grow.intro ?_ fun b cap hb hc1 hc2 => ?_); omega) <;> (try simp -dsimp -implicitDefEqProofs [*] at hb)
          | (with_reducible refine DrawLate.intro [] ?_)
          | (with_reducible refine Cls_and ?_ ?_)
          | (with_reducible exact Cls.self _ _)
          | (with_reducible refine Cls_same ?_)
          | (with_reducible refine Cls_in ?_ ?_)
          | (with_reducible refine Cls_fresh ?_ ?_)
          | (with_reducible refine And.intro (fun h => ?_) (fun h => ?_)) <;> (try (exfalso; omega))
          | (with_reducible refine And.intro (fun h => ?_) ?_) <;> (try (exfalso; omega))
          | ((with_reducible refine and_keep ?_ fun hk => ?_); omega)
          | (simp -dsimp -implicitDefEqProofs [-xappend_list, *]))
        exact .fresh1 hb (.loose1 (.same ⟨rfl, rfl⟩))
  | none =>
    have hfe : findE l (subj d) = -1 := by simp [findE, hf]
    rw [hfe] at hfd
    have hone : Hid (oneE l d = if d.kind = 3 then l.take (posE l d.eno) ++ d.event :: l.drop (posE l d.eno) else l) := ⟨by unfold oneE; rw [hf]⟩
    clear hfe hf
    by_cases k3 : d.kind = 3
    · have k1 : ¬ d.kind = 1 := by omega
      have k2 : ¬ d.kind = 2 := by omega
      repeat' (first
        | (with_reducible refine Fresh.intro fun b hb => ?_) <;> (try simp -dsimp -implicitDefEqProofs [*] at hb)
        | (with_reducible refine Rets.xcall (subject_spec _ _) ?_)
        | (with_reducible refine Rets.xsoft (subject_spec _ _) ?_)
        | (with_reducible refine xlateCall_of (fun _ => subject_spec _ _) ?_)
        | (with_reducible refine Rets.xcall (hfd _) ?_)
        | (with_reducible refine Rets.xsoft (hfd _) ?_)
        | (with_reducible refine xlateCall_of (fun _ => hfd _) ?_)
        | (with_reducible refine Lit.imm ?_)
        | ((with_reducible refine Grow.intro ?_ fun b cap hb hc1 hc2 => ?_); omega) <;> (try simp -dsimp -implicitDefEqProofs [*] at hb)
        | (with_reducible refine DrawLate.intro [] ?_)
        | (with_reducible refine Cls_and ?_ ?_)
        | (with_reducible exact Cls.self _ _)
        | (with_reducible refine Cls_same ?_)
        | (with_reducible refine Cls_in ?_ ?_)
        | (with_reducible refine Cls_fresh ?_ ?_)
        | (with_reducible refine And.intro (fun h => ?_) (fun h => ?_)) <;> (try (exfalso; omega))
        | (with_reducible refine And.intro (fun h => ?_) ?_) <;> (try (exfalso; omega))
        | ((with_reducible refine and_keep ?_ fun hk => ?_); omega)
        | (simp -dsimp -implicitDefEqProofs [-xappend_list, *]))
      refine xloop_for (fun k : Nat => [(0, Event.lst t l), (3, .ptr b 0), (7, .int (k : Nat))]) (fun _ => (b, .arr T.apiDecision d.enc) :: st) (fun k => k ≤ l.length ∧ ∀ j (h : j < l.length), j < k → l[j].no < d.eno) (fun k => l.length - k) 0 ⟨Nat.zero_le _, fun _ _ h => absurd h (by omega)⟩ (by simp) (by simp) ?_
      rintro k ⟨hk, hf⟩
      have hw := wrap_succ (n := k) (by omega)
      have hlt : (Event.row l).take (k * 9) = Event.row (l.take k) := Event.row_take l k
      have hld : (Event.row l).drop (k * 9) = Event.row (l.drop k) := Event.row_drop l k
      have hmin : min (k * 9) (l.length * 9) = k * 9 := by omega
      have hsub : l.length * 9 - k * 9 = (l.length - k) * 9 := by omega
      have hp : (∀ h : k < l.length, d.eno ≤ l[k].no) → k = posE l d.eno := fun h => by
        unfold posE
        rcases Nat.lt_or_ge k l.length with hkl | hkl
        · symm
          rw [List.findIdx_eq hkl]
          exact ⟨by simpa using h hkl, fun j hj => by simpa using hf j (by omega) hj⟩
        · have e : l.findIdx (fun e => decide (d.eno ≤ e.no)) = l.length := by
            rw [List.findIdx_eq_length]
            intro x hx
            obtain ⟨j, hj, rfl⟩ := List.mem_iff_getElem.1 hx
            simpa using hf j hj (by omega)
          omega
      by_cases hkl : k < l.length
      · by_cases hkn : l[k].no < d.eno
        · have hf2 : Hid (∀ j (h : j < l.length), j < k + 1 → l[j].no < d.eno) := ⟨fun j hj hjk => by
            rcases Nat.lt_or_ge j k with h1 | h1
            · exact hf j hj h1
            · obtain rfl : j = k := by omega
              exact hkn⟩
          clear hf hp
          repeat' (first
            | (with_reducible refine Fresh.intro fun b hb => ?_) <;> (try simp -dsimp -implicitDefEqProofs [*] at hb)
            | (with_reducible refine Lit.imm ?_)
            | ((with_reducible refine Grow.intro ?_ fun b cap hb hc1 hc2 => ?_); omega) <;> (try simp -dsimp -implicitDefEqProofs [*] at hb)
            | (with_reducible refine DrawLate.intro [] ?_)
            | (with_reducible refine Cls_and ?_ ?_)
            | (with_reducible exact Cls.self _ _)
            | (with_reducible refine Cls_same ?_)
            | (with_reducible refine Cls_in ?_ ?_)
            | (with_reducible refine Cls_fresh ?_ ?_)
            | (with_reducible refine And.intro (fun h => ?_) (fun h => ?_)) <;> (try (exfalso; omega))
            | (with_reducible refine And.intro (fun h => ?_) ?_) <;> (try (exfalso; omega))
            | ((with_reducible refine and_keep ?_ fun hk => ?_); omega)
            | (simp -dsimp -implicitDefEqProofs [-xappend_list, *]))
          exact Next.intro (k + 1) ⟨by omega, hf2.out⟩ (by omega) (by simp [*]) (by repeat' (first | exact StLe.refl _ | (refine StLe_cons (by simp [*]; done) ?_) | (refine StLe_fresh (by simp [*]; done) ?_)))
        · have hp2 : Hid (k = posE l d.eno) := ⟨hp fun _ => by omega⟩
          have hkn2 : d.eno ≤ l[k].no := by omega
          clear hp hf
          repeat' (first
            | (with_reducible refine Fresh.intro fun b hb => ?_) <;> (try simp -dsimp -implicitDefEqProofs [*] at hb)
            | (with_reducible refine Lit.imm ?_)
            | ((with_reducible refine Grow.intro ?_ fun b cap hb hc1 hc2 => ?_); omega) <;> (try simp -dsimp -implicitDefEqProofs [*] at hb)
            | (with_reducible refine DrawLate.intro [] ?_)
            | (with_reducible refine Cls_and ?_ ?_)
            | (with_reducible exact Cls.self _ _)
            | (with_reducible refine Cls_same ?_)
            | (with_reducible refine Cls_in ?_ ?_)
            | (with_reducible refine Cls_fresh ?_ ?_)
            | (with_reducible refine And.intro (fun h => ?_) (fun h => ?_)) <;> (try (exfalso; omega))
            | (with_reducible refine And.intro (fun h => ?_) ?_) <;> (try (exfalso; omega))
            | ((with_reducible refine and_keep ?_ fun hk => ?_); omega)
            | (simp -dsimp -implicitDefEqProofs [-xappend_list, *]))
          refine xappend_accQ Event.row_len Event.row_append (none : Option (Acc Event)) trivial (l.take k) rfl (by simp; omega) (by simp; omega) fun o1 ho1 hl1 => ?_
          refine Cls_and (Cls_acc ho1 (Cls.self _ _)) ?_
          repeat' (first
            | (with_reducible refine Fresh.intro fun b hb => ?_) <;> (try simp -dsimp -implicitDefEqProofs [*] at hb)
            | (with_reducible refine Lit.imm ?_)
            | ((with_reducible refine Grow.intro ?_ fun b cap hb hc1 hc2 => ?_); omega) <;> (try simp -dsimp -implicitDefEqProofs [*] at hb)
            | (with_reducible refine DrawLate.intro [] ?_)
            | (with_reducible refine Cls_and ?_ ?_)
            | (with_reducible exact Cls.self _ _)
            | (with_reducible refine Cls_same ?_)
            | (with_reducible refine Cls_in ?_ ?_)
            | (with_reducible refine Cls_fresh ?_ ?_)
            | (with_reducible refine And.intro (fun h => ?_) (fun h => ?_)) <;> (try (exfalso; omega))
            | (with_reducible refine And.intro (fun h => ?_) ?_) <;> (try (exfalso; omega))
            | ((with_reducible refine and_keep ?_ fun hk => ?_); omega)
            | (simp -dsimp -implicitDefEqProofs [-xappend_list, *]))
          refine xappend_accQ Event.row_len Event.row_append o1 ho1 ([d.event]) (by simp) (by simp) (by simp [hl1]; omega) fun o2 ho2 hl2 => ?_
          refine Cls_and (Cls_acc ho2 (Cls.self _ _)) ?_
          repeat' (first
            | (with_reducible refine Fresh.intro fun b hb => ?_) <;> (try simp -dsimp -implicitDefEqProofs [*] at hb)
            | (with_reducible refine Lit.imm ?_)
            | ((with_reducible refine Grow.intro ?_ fun b cap hb hc1 hc2 => ?_); omega) <;> (try simp -dsimp -implicitDefEqProofs [*] at hb)
            | (with_reducible refine DrawLate.intro [] ?_)
            | (with_reducible refine Cls_and ?_ ?_)
            | (with_reducible exact Cls.self _ _)
            | (with_reducible refine Cls_same ?_)
            | (with_reducible refine Cls_in ?_ ?_)
            | (with_reducible refine Cls_fresh ?_ ?_)
            | (with_reducible refine And.intro (fun h => ?_) (fun h => ?_)) <;> (try (exfalso; omega))
            | (with_reducible refine And.intro (fun h => ?_) ?_) <;> (try (exfalso; omega))
            | ((with_reducible refine and_keep ?_ fun hk => ?_); omega)
            | (simp -dsimp -implicitDefEqProofs [-xappend_list, *]))
          refine xappend_accQ Event.row_len Event.row_append o2 ho2 (l.drop k) rfl (by simp) (by simp [hl1, hl2]; omega) fun o3 ho3 hl3 => ?_
          refine Cls_and (Cls_acc ho3 (Cls.self _ _)) ?_
          repeat' (first
            | (with_reducible refine Fresh.intro fun b hb => ?_) <;> (try simp -dsimp -implicitDefEqProofs [*] at hb)
            | (with_reducible refine Lit.imm ?_)
            | ((with_reducible refine Grow.intro ?_ fun b cap hb hc1 hc2 => ?_); omega) <;> (try simp -dsimp -implicitDefEqProofs [*] at hb)
            | (with_reducible refine DrawLate.intro [] ?_)
            | (with_reducible refine Cls_and ?_ ?_)
            | (with_reducible exact Cls.self _ _)
            | (with_reducible refine Cls_same ?_)
            | (with_reducible refine Cls_in ?_ ?_)
            | (with_reducible refine Cls_fresh ?_ ?_)
            | (with_reducible refine And.intro (fun h => ?_) (fun h => ?_)) <;> (try (exfalso; omega))
            | (with_reducible refine And.intro (fun h => ?_) ?_) <;> (try (exfalso; omega))
            | ((with_reducible refine and_keep ?_ fun hk => ?_); omega)
            | (simp -dsimp -implicitDefEqProofs [-xappend_list, *]))
          have e : accL o3 = oneE l d := by rw [hl3, hl2, hl1, hone.out, if_pos k3, ← hp2.out]; simp
          exact .accQ1 rfl ho3 (.fresh1 hb (.same ⟨by rw [e], rfl⟩))
      · have hp2 : Hid (k = posE l d.eno) := ⟨hp fun h => absurd h hkl⟩
        clear hp hf
        repeat' (first
          | (with_reducible refine Fresh.intro fun b hb => ?_) <;> (try simp -dsimp -implicitDefEqProofs [*] at hb)
          | (with_reducible refine Lit.imm ?_)
          | ((with_reducible refine Grow.intro ?_ fun b cap hb hc1 hc2 => ?_); omega) <;> (try simp -dsimp -implicitDefEqProofs [*] at hb)
          | (with_reducible refine DrawLate.intro [] ?_)
          | (with_reducible refine Cls_and ?_ ?_)
          | (with_reducible exact Cls.self _ _)
          | (with_reducible refine Cls_same ?_)
          | (with_reducible refine Cls_in ?_ ?_)
          | (with_reducible refine Cls_fresh ?_ ?_)
          | (with_reducible refine And.intro (fun h => ?_) (fun h => ?_)) <;> (try (exfalso; omega))
          | (with_reducible refine And.intro (fun h => ?_) ?_) <;> (try (exfalso; omega))
          | ((with_reducible refine and_keep ?_ fun hk => ?_); omega)
          | (simp -dsimp -implicitDefEqProofs [-xappend_list, *]))
        refine xappend_accQ Event.row_len Event.row_append (none : Option (Acc Event)) trivial (l.take k) rfl (by simp; omega) (by simp; omega) fun o1 ho1 hl1 => ?_
        refine Cls_and (Cls_acc ho1 (Cls.self _ _)) ?_
        repeat' (first
          | (with_reducible refine Fresh.intro fun b hb => ?_) <;> (try simp -dsimp -implicitDefEqProofs [*] at hb)
          | (with_reducible refine Lit.imm ?_)
          | ((with_reducible refine Grow.intro ?_ fun b cap hb hc1 hc2 => ?_); omega) <;> (try simp -dsimp -implicitDefEqProofs [*] at hb)
          | (with_reducible refine DrawLate.intro [] ?_)
          | (with_reducible refine Cls_and ?_ ?_)
          | (with_reducible exact Cls.self _ _)
          | (with_reducible refine Cls_same ?_)
          | (with_reducible refine Cls_in ?_ ?_)
          | (with_reducible refine Cls_fresh ?_ ?_)
          | (with_reducible refine And.intro (fun h => ?_) (fun h => ?_)) <;> (try (exfalso; omega))
          | (with_reducible refine And.intro (fun h => ?_) ?_) <;> (try (exfalso; omega))
          | ((with_reducible refine and_keep ?_ fun hk => ?_); omega)
          | (simp -dsimp -implicitDefEqProofs [-xappend_list, *]))
        refine xappend_accQ Event.row_len Event.row_append o1 ho1 ([d.event]) (by simp) (by simp) (by simp [hl1]; omega) fun o2 ho2 hl2 => ?_
        refine Cls_and (Cls_acc ho2 (Cls.self _ _)) ?_
        repeat' (first
          | (with_reducible refine Fresh.intro fun b hb => ?_) <;> (try simp -dsimp -implicitDefEqProofs [*] at hb)
          | (with_reducible refine Lit.imm ?_)
          | ((with_reducible refine Grow.intro ?_ fun b cap hb hc1 hc2 => ?_); omega) <;> (try simp -dsimp -implicitDefEqProofs [*] at hb)
          | (with_reducible refine DrawLate.intro [] ?_)
          | (with_reducible refine Cls_and ?_ ?_)
          | (with_reducible exact Cls.self _ _)
          | (with_reducible refine Cls_same ?_)
          | (with_reducible refine Cls_in ?_ ?_)
          | (with_reducible refine Cls_fresh ?_ ?_)
          | (with_reducible refine And.intro (fun h => ?_) (fun h => ?_)) <;> (try (exfalso; omega))
          | (with_reducible refine And.intro (fun h => ?_) ?_) <;> (try (exfalso; omega))
          | ((with_reducible refine and_keep ?_ fun hk => ?_); omega)
          | (simp -dsimp -implicitDefEqProofs [-xappend_list, *]))
        refine xappend_accQ Event.row_len Event.row_append o2 ho2 (l.drop k) rfl (by simp) (by simp [hl1, hl2]; omega) fun o3 ho3 hl3 => ?_
        refine Cls_and (Cls_acc ho3 (Cls.self _ _)) ?_
        repeat' (first
          | (with_reducible refine Fresh.intro fun b hb => ?_) <;> (try simp -dsimp -implicitDefEqProofs [*] at hb)
          | (with_reducible refine Lit.imm ?_)
          | ((with_reducible refine Grow.intro ?_ fun b cap hb hc1 hc2 => ?_); omega) <;> (try simp -dsimp -implicitDefEqProofs [*] at hb)
          | (with_reducible refine DrawLate.intro [] ?_)
          | (with_reducible refine Cls_and ?_ ?_)
          | (with_reducible exact Cls.self _ _)
          | (with_reducible refine Cls_same ?_)
          | (with_reducible refine Cls_in ?_ ?_)
          | (with_reducible refine Cls_fresh ?_ ?_)
          | (with_reducible refine And.intro (fun h => ?_) (fun h => ?_)) <;> (try (exfalso; omega))
          | (with_reducible refine And.intro (fun h => ?_) ?_) <;> (try (exfalso; omega))
          | ((with_reducible refine and_keep ?_ fun hk => ?_); omega)
          | (simp -dsimp -implicitDefEqProofs [-xappend_list, *]))
        have e : accL o3 = oneE l d := by rw [hl3, hl2, hl1, hone.out, if_pos k3, ← hp2.out]; simp
        exact .accQ1 rfl ho3 (.fresh1 hb (.same ⟨by rw [e], rfl⟩))
    · have e : oneE l d = l := by rw [hone.out]; simp [k3]
      rw [e]
      by_cases k1 : d.kind = 1
      · repeat' (first
          | (with_reducible refine Fresh.intro fun b hb => ?_) <;> (try simp -dsimp -implicitDefEqProofs [*] at hb)
          | (with_reducible refine Rets.xcall (subject_spec _ _) ?_)
          | (with_reducible refine Rets.xsoft (subject_spec _ _) ?_)
          | (with_reducible refine xlateCall_of (fun _ => subject_spec _ _) ?_)
          | (with_reducible refine Rets.xcall (hfd _) ?_)
          | (with_reducible refine Rets.xsoft (hfd _) ?_)
          | (with_reducible refine xlateCall_of (fun _ => hfd _) ?_)
          | (with_reducible refine Lit.imm ?_)
          | ((with_reducible refine Grow.intro ?_ fun b cap hb hc1 hc2 => ?_); omega) <;> (try simp -dsimp -implicitDefEqProofs [*] at hb)
          | (with_reducible refine DrawLate.intro [] ?_)
          | (with_reducible refine Cls_and ?_ ?_)
          | (with_reducible exact Cls.self _ _)
          | (with_reducible refine Cls_same ?_)
          | (with_reducible refine Cls_in ?_ ?_)
          | (with_reducible refine Cls_fresh ?_ ?_)
          | (with_reducible refine And.intro (fun h => ?_) (fun h => ?_)) <;> (try (exfalso; omega))
          | (with_reducible refine And.intro (fun h => ?_) ?_) <;> (try (exfalso; omega))
          | ((with_reducible refine and_keep ?_ fun hk => ?_); omega)
          | (simp -dsimp -implicitDefEqProofs [-xappend_list, *]))
        exact .fresh1 hb (.loose1 (.same ⟨rfl, rfl⟩))
      by_cases k2 : d.kind = 2
      · repeat' (first
          | (with_reducible refine Fresh.intro fun b hb => ?_) <;> (try simp -dsimp -implicitDefEqProofs [*] at hb)
          | (with_reducible refine Rets.xcall (subject_spec _ _) ?_)
          | (with_reducible refine Rets.xsoft (subject_spec _ _) ?_)
          | (with_reducible refine xlateCall_of (fun _ => subject_spec _ _) ?_)
          | (with_reducible refine Rets.xcall (hfd _) ?_)
          | (with_reducible refine Rets.xsoft (hfd _) ?_)
          | (with_reducible refine xlateCall_of (fun _ => hfd _) ?_)
          | (with_reducible refine Lit.imm ?_)
          | ((with_reducible refine Grow.intro ?_ fun b cap hb hc1 hc2 => ?_); omega) <;> (try simp -dsimp -implicitDefEqProofs [*] at hb)
          | (with_reducible refine DrawLate.intro [] ?_)
          | (with_reducible refine Cls_and ?_ ?_)
          | (with_reducible exact Cls.self _ _)
          | (with_reducible refine Cls_same ?_)
          | (with_reducible refine Cls_in ?_ ?_)
          | (with_reducible refine Cls_fresh ?_ ?_)
          | (with_reducible refine And.intro (fun h => ?_) (fun h => ?_)) <;> (try (exfalso; omega))
          | (with_reducible refine And.intro (fun h => ?_) ?_) <;> (try (exfalso; omega))
          | ((with_reducible refine and_keep ?_ fun hk => ?_); omega)
          | (simp -dsimp -implicitDefEqProofs [-xappend_list, *]))
        exact .fresh1 hb (.loose1 (.same ⟨rfl, rfl⟩))
      · repeat' (first
          | (with_reducible refine Fresh.intro fun b hb => ?_) <;> (try simp -dsimp -implicitDefEqProofs [*] at hb)
          | (with_reducible refine Rets.xcall (subject_spec _ _) ?_)
          | (with_reducible refine Rets.xsoft (subject_spec _ _) ?_)
          | (with_reducible refine xlateCall_of (fun _ => subject_spec _ _) ?_)
          | (with_reducible refine Rets.xcall (hfd _) ?_)
          | (with_reducible refine Rets.xsoft (hfd _) ?_)
          | (with_reducible refine xlateCall_of (fun _ => hfd _) ?_)
          | (with_reducible refine Lit.imm ?_)
          | ((with_reducible refine Grow.intro ?_ fun b cap hb hc1 hc2 => ?_); omega) <;> (try simp -dsimp -implicitDefEqProofs [*] at hb)
          | (with_reducible refine DrawLate.intro [] ?_)
          | (with_reducible refine Cls_and ?_ ?_)
          | (with_reducible exact Cls.self _ _)
          | (with_reducible refine Cls_same ?_)
          | (with_reducible refine Cls_in ?_ ?_)
          | (with_reducible refine Cls_fresh ?_ ?_)
          | (with_reducible refine And.intro (fun h => ?_) (fun h => ?_)) <;> (try (exfalso; omega))
          | (with_reducible refine And.intro (fun h => ?_) ?_) <;> (try (exfalso; omega))
          | ((with_reducible refine and_keep ?_ fun hk => ?_); omega)
          | (simp -dsimp -implicitDefEqProofs [-xappend_list, *]))
        exact .fresh1 hb (.loose1 (.same ⟨rfl, rfl⟩))
end Go.Proofs.Ythkjdppifnmakaa
/- The reference's Apply. -/
namespace Go.Proofs.Ythkjdppifnmakaa
open Go.Pv
set_option maxRecDepth 100000
set_option maxHeartbeats 4000000
def refL0 (l : List Event) (d : List Decision) (t : Int) : List Event := (standL d t).foldl oneE l
def refN (l : List Event) (d : List Decision) (t : Int) : Int := if checkE l ≠ 0 then checkE l else if standN d t ≠ 0 then standN d t else if (4096 : Int) < ((refL0 l d t).length : Int) then 2 else 0
def refL (l : List Event) (d : List Decision) (t : Int) : List Event := if refN l d t = 0 then refL0 l d t else []
theorem oneE_len (l : List Event) (d : Decision) : (oneE l d).length ≤ l.length + 1 := by
  unfold oneE
  split
  · split
    · simp; omega
    · split
      · simp; omega
      · omega
  · split
    · simp; omega
    · omega
theorem foldO_take {D : List Decision} {i : Nat} (h : i < D.length) (l : List Event) : (D.take (i + 1)).foldl oneE l = oneE ((D.take i).foldl oneE l) D[i] := by
  rw [List.take_succ_eq_append_getElem h, List.foldl_append]; rfl
theorem refApply_spec (ta tb : Bool) (l : List Event) (d : List Decision) (t : Int) (st : Store) :
    Rets P F.podiumref51_Apply [Event.lst ta l, Decision.lst tb d, .int t] st (.tuple [Event.lst false (refL l d t), .int (refN l d t)]) := by
  refine H.podiumref51_Apply.view hmix rfl rfl ?_
  by_cases hc : checkE l = 0
  · obtain ⟨hl1, -⟩ := checkE_zero.1 hc
    by_cases hs : standN d t = 0
    · have hsl : (standL d t).length ≤ 4096 := by
        refine Nat.le_trans standL_len ?_
        have hc : checkD d = 0 := by
          unfold standN at hs
          split at hs
          · rename_i h; exact absurd hs h
          · rename_i h; simpa using h
        exact (checkD_zero.1 hc).1
      have hsp := refStanding_spec tb d t
      have hN : Hid (refN l d t = if (4096 : Int) < ((refL0 l d t).length : Int) then 2 else 0) := ⟨by simp [refN, hc, hs]⟩
      have hL : Hid (refL l d t = if refN l d t = 0 then refL0 l d t else []) := ⟨rfl⟩
      have h0 : Hid (refL0 l d t = (standL d t).foldl oneE l) := ⟨rfl⟩
      rw [hs] at hsp
      clear hs
      generalize standL d t = D at *
      repeat' (first
        | (with_reducible refine Fresh.intro fun b hb => ?_) <;> (try simp -dsimp -implicitDefEqProofs [*] at hb)
        | (with_reducible refine Rets.xcall (refCheck_spec _ _ _) ?_)
        | (with_reducible refine Rets.xsoft (refCheck_spec _ _ _) ?_)
        | (with_reducible refine xlateCall_of (fun _ => refCheck_spec _ _ _) ?_)
        | (with_reducible refine Rets.xcall (hsp _) ?_)
        | (with_reducible refine Rets.xsoft (hsp _) ?_)
        | (with_reducible refine xlateCall_of (fun _ => hsp _) ?_)
        | (with_reducible refine Lit.imm ?_)
        | ((with_reducible refine Grow.intro ?_ fun b cap hb hc1 hc2 => ?_); omega) <;> (try simp -dsimp -implicitDefEqProofs [*] at hb)
        | (with_reducible refine DrawLate.intro [] ?_)
        | (with_reducible refine Cls_and ?_ ?_)
        | (with_reducible exact Cls.self _ _)
        | (with_reducible refine Cls_same ?_)
        | (with_reducible refine Cls_in ?_ ?_)
        | (with_reducible refine Cls_fresh ?_ ?_)
        | (with_reducible refine And.intro (fun h => ?_) (fun h => ?_)) <;> (try (exfalso; omega))
        | (with_reducible refine And.intro (fun h => ?_) ?_) <;> (try (exfalso; omega))
        | ((with_reducible refine and_keep ?_ fun hk => ?_); omega)
        | (simp -dsimp -implicitDefEqProofs [*]))
      refine xloop_view (fun y : Nat × List Event => [(0, Event.lst false y.2), (9, Decision.lst false D), (11, .int (y.1 : Nat))]) (fun _ => st) (fun y => y.1 ≤ D.length ∧ y.2.length ≤ 4096 + y.1 ∧ y.2 = (D.take y.1).foldl oneE l) (fun y => D.length - y.1) (0, l) ⟨Nat.zero_le _, by simp only; omega, rfl⟩ ?_ ?_
      · refine View.ple (StLe.refl _) ?_
        simp
        exact ⟨.loose, .refl _, .refl _⟩
      rintro ⟨i, x⟩ ⟨hi, hlen, hx⟩
      simp only at hi hlen hx
      have hw := wrap_succ (n := i) (by omega)
      by_cases hiD : i < D.length
      · have h1 := foldO_take hiD l
        rw [← hx] at h1
        have h2 : Hid (oneE x D[i] = (D.take (i + 1)).foldl oneE l) := ⟨h1.symm⟩
        have h3 := oneE_len x D[i]
        clear hx h1
        repeat' (first
          | (with_reducible refine Fresh.intro fun b hb => ?_) <;> (try simp -dsimp -implicitDefEqProofs [*] at hb)
          | (with_reducible refine Rets.xcall (one_spec _ _ (by omega) _ _) ?_)
          | (with_reducible refine Rets.xsoft (one_spec _ _ (by omega) _ _) ?_)
          | (with_reducible refine xlateCall_of (fun _ => one_spec _ _ (by omega) _ _) ?_)
          | (with_reducible refine Lit.imm ?_)
          | ((with_reducible refine Grow.intro ?_ fun b cap hb hc1 hc2 => ?_); omega) <;> (try simp -dsimp -implicitDefEqProofs [*] at hb)
          | (with_reducible refine DrawLate.intro [] ?_)
          | (with_reducible refine Cls_and ?_ ?_)
          | (with_reducible exact Cls.self _ _)
          | (with_reducible refine Cls_same ?_)
          | (with_reducible refine Cls_in ?_ ?_)
          | (with_reducible refine Cls_fresh ?_ ?_)
          | (with_reducible refine And.intro (fun h => ?_) (fun h => ?_)) <;> (try (exfalso; omega))
          | (with_reducible refine And.intro (fun h => ?_) ?_) <;> (try (exfalso; omega))
          | ((with_reducible refine and_keep ?_ fun hk => ?_); omega)
          | (simp -dsimp -implicitDefEqProofs [*]))
        exact Next.intro (i + 1, oneE x D[i]) ⟨by simp only; omega, by simp only; omega, h2.out⟩ (by simp only; omega) (by simp) (by repeat' (first | exact StLe.refl _ | (refine StLe_cons (by simp [*]; done) ?_) | (refine StLe_fresh (by simp [*]; done) ?_)))
      · rw [List.take_of_length_le (by omega), ← h0.out] at hx
        have hx2 : Hid (x = refL0 l d t) := ⟨hx⟩
        clear hx
        by_cases h4 : (4096 : Int) < (x.length : Int)
        · have hN2 : refN l d t = 2 := by rw [hN.out, ← hx2.out, if_pos h4]
          have hL2 : refL l d t = [] := by rw [hL.out, hN2]; simp
          repeat' (first
            | (with_reducible refine Fresh.intro fun b hb => ?_) <;> (try simp -dsimp -implicitDefEqProofs [*] at hb)
            | (with_reducible refine Lit.imm ?_)
            | ((with_reducible refine Grow.intro ?_ fun b cap hb hc1 hc2 => ?_); omega) <;> (try simp -dsimp -implicitDefEqProofs [*] at hb)
            | (with_reducible refine RetView.nil2 ?_)
            | (with_reducible refine RetView.nil1 ?_)
            | (with_reducible refine RetView.loose2 (t := true) ?_)
            | (with_reducible refine RetView.loose1 (t := true) ?_)
            | (with_reducible refine RetView.fz 9 ?_ ?_)
            | (with_reducible refine RetView.same ?_)
            | (with_reducible refine DrawLate.intro [] ?_)
            | (with_reducible refine Cls_and ?_ ?_)
            | (with_reducible exact Cls.self _ _)
            | (with_reducible refine Cls_same ?_)
            | (with_reducible refine Cls_in ?_ ?_)
            | (with_reducible refine Cls_fresh ?_ ?_)
            | (with_reducible refine And.intro (fun h => ?_) (fun h => ?_)) <;> (try (exfalso; omega))
            | (with_reducible refine And.intro (fun h => ?_) ?_) <;> (try (exfalso; omega))
            | ((with_reducible refine and_keep ?_ fun hk => ?_); omega)
            | (simp -dsimp -implicitDefEqProofs [*]))
        · have hN2 : refN l d t = 0 := by rw [hN.out, ← hx2.out, if_neg h4]
          have hL2 : refL l d t = x := by rw [hL.out, hN2, hx2.out]; simp
          repeat' (first
            | (with_reducible refine Fresh.intro fun b hb => ?_) <;> (try simp -dsimp -implicitDefEqProofs [*] at hb)
            | (with_reducible refine Lit.imm ?_)
            | ((with_reducible refine Grow.intro ?_ fun b cap hb hc1 hc2 => ?_); omega) <;> (try simp -dsimp -implicitDefEqProofs [*] at hb)
            | (with_reducible refine RetView.nil2 ?_)
            | (with_reducible refine RetView.nil1 ?_)
            | (with_reducible refine RetView.loose2 (t := true) ?_)
            | (with_reducible refine RetView.loose1 (t := true) ?_)
            | (with_reducible refine RetView.fz 9 ?_ ?_)
            | (with_reducible refine RetView.same ?_)
            | (with_reducible refine DrawLate.intro [] ?_)
            | (with_reducible refine Cls_and ?_ ?_)
            | (with_reducible exact Cls.self _ _)
            | (with_reducible refine Cls_same ?_)
            | (with_reducible refine Cls_in ?_ ?_)
            | (with_reducible refine Cls_fresh ?_ ?_)
            | (with_reducible refine And.intro (fun h => ?_) (fun h => ?_)) <;> (try (exfalso; omega))
            | (with_reducible refine And.intro (fun h => ?_) ?_) <;> (try (exfalso; omega))
            | ((with_reducible refine and_keep ?_ fun hk => ?_); omega)
            | (simp -dsimp -implicitDefEqProofs [*]))
    · have hN : refN l d t = standN d t := by simp_all [refN]
      have hL : refL l d t = [] := by simp [refL, hN, hs]
      repeat' (first
        | (with_reducible refine Fresh.intro fun b hb => ?_) <;> (try simp -dsimp -implicitDefEqProofs [*] at hb)
        | (with_reducible refine Rets.xcall (refCheck_spec _ _ _) ?_)
        | (with_reducible refine Rets.xsoft (refCheck_spec _ _ _) ?_)
        | (with_reducible refine xlateCall_of (fun _ => refCheck_spec _ _ _) ?_)
        | (with_reducible refine Rets.xcall (refStanding_spec _ _ _ _) ?_)
        | (with_reducible refine Rets.xsoft (refStanding_spec _ _ _ _) ?_)
        | (with_reducible refine xlateCall_of (fun _ => refStanding_spec _ _ _ _) ?_)
        | (with_reducible refine Lit.imm ?_)
        | ((with_reducible refine Grow.intro ?_ fun b cap hb hc1 hc2 => ?_); omega) <;> (try simp -dsimp -implicitDefEqProofs [*] at hb)
        | (with_reducible refine RetView.nil2 ?_)
        | (with_reducible refine RetView.nil1 ?_)
        | (with_reducible refine RetView.loose2 (t := true) ?_)
        | (with_reducible refine RetView.loose1 (t := true) ?_)
        | (with_reducible refine RetView.fz 9 ?_ ?_)
        | (with_reducible refine RetView.same ?_)
        | (with_reducible refine DrawLate.intro [] ?_)
        | (with_reducible refine Cls_and ?_ ?_)
        | (with_reducible exact Cls.self _ _)
        | (with_reducible refine Cls_same ?_)
        | (with_reducible refine Cls_in ?_ ?_)
        | (with_reducible refine Cls_fresh ?_ ?_)
        | (with_reducible refine And.intro (fun h => ?_) (fun h => ?_)) <;> (try (exfalso; omega))
        | (with_reducible refine And.intro (fun h => ?_) ?_) <;> (try (exfalso; omega))
        | ((with_reducible refine and_keep ?_ fun hk => ?_); omega)
        | (simp -dsimp -implicitDefEqProofs [*]))
  · have hN : refN l d t = checkE l := by simp_all [refN]
    have hL : refL l d t = [] := by simp [refL, hN, hc]
    repeat' (first
      | (with_reducible refine Fresh.intro fun b hb => ?_) <;> (try simp -dsimp -implicitDefEqProofs [*] at hb)
      | (with_reducible refine Rets.xcall (refCheck_spec _ _ _) ?_)
      | (with_reducible refine Rets.xsoft (refCheck_spec _ _ _) ?_)
      | (with_reducible refine xlateCall_of (fun _ => refCheck_spec _ _ _) ?_)
      | (with_reducible refine Lit.imm ?_)
      | ((with_reducible refine Grow.intro ?_ fun b cap hb hc1 hc2 => ?_); omega) <;> (try simp -dsimp -implicitDefEqProofs [*] at hb)
      | (with_reducible refine RetView.nil2 ?_)
      | (with_reducible refine RetView.nil1 ?_)
      | (with_reducible refine RetView.loose2 (t := true) ?_)
      | (with_reducible refine RetView.loose1 (t := true) ?_)
      | (with_reducible refine RetView.fz 9 ?_ ?_)
      | (with_reducible refine RetView.same ?_)
      | (with_reducible refine DrawLate.intro [] ?_)
      | (with_reducible refine Cls_and ?_ ?_)
      | (with_reducible exact Cls.self _ _)
      | (with_reducible refine Cls_same ?_)
      | (with_reducible refine Cls_in ?_ ?_)
      | (with_reducible refine Cls_fresh ?_ ?_)
      | (with_reducible refine And.intro (fun h => ?_) (fun h => ?_)) <;> (try (exfalso; omega))
      | (with_reducible refine And.intro (fun h => ?_) ?_) <;> (try (exfalso; omega))
      | ((with_reducible refine and_keep ?_ fun hk => ?_); omega)
      | (simp -dsimp -implicitDefEqProofs [*]))
end Go.Proofs.Ythkjdppifnmakaa
