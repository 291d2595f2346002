/- Check. -/
import Derived.Test.YtahdhdgglbcagaaS49A
namespace Go.Proofs.Ytahdhdgglbcagaa
open Go.Pv
set_option maxRecDepth 100000
/-- A record is right. -/
def ok (l : List Event) : Prop := (∀ e ∈ l, rightE e = true) ∧ l.Pairwise (fun a b => a.no < b.no)
instance (l : List Event) : Decidable (ok l) := inferInstanceAs (Decidable (_ ∧ _))
theorem ok_nil : ok [] := ⟨by simp, .nil⟩
theorem ok_take {l : List Event} (h : ok l) (i : Nat) : ok (l.take i) := ⟨fun e he => h.1 e (List.mem_of_mem_take he), h.2.sublist (List.take_sublist _ _)⟩
theorem ok_snoc {l : List Event} {i : Nat} (hi : i < l.length) (h : ok (l.take i)) : ok (l.take (i + 1)) ↔ rightE l[i] = true ∧ (0 < i → ∀ h : i - 1 < l.length, l[i - 1].no < l[i].no) := by
  have e : l.take (i + 1) = l.take i ++ [l[i]] := by rw [List.take_succ_eq_append_getElem hi]
  constructor
  · rintro ⟨h1, h2⟩
    refine ⟨h1 _ (by rw [e]; exact List.mem_append_right _ (by simp)), fun h0 hl => ?_⟩
    rw [e, List.pairwise_append] at h2
    refine h2.2.2 _ ?_ _ (by simp)
    rw [List.mem_iff_getElem]
    exact ⟨i - 1, by simp; omega, by simp⟩
  · rintro ⟨h1, h2⟩
    rw [e]
    refine ⟨fun x hx => ?_, ?_⟩
    · rcases List.mem_append.1 hx with hx | hx
      · exact h.1 x hx
      · simp at hx; subst hx; exact h1
    · rw [List.pairwise_append]
      refine ⟨h.2, by simp, fun x hx y hy => ?_⟩
      simp at hy; subst hy
      obtain ⟨j, hj, rfl⟩ := List.mem_iff_getElem.1 hx
      have hjl : j < i := by simp at hj; omega
      have h0 := h2 (by omega) (by omega)
      simp only [List.getElem_take]
      by_cases hji : j = i - 1
      · subst hji; exact h0
      · have := (List.pairwise_iff_getElem.1 h.2) j (i - 1) hj (by simp; omega) (by omega)
        simp only [List.getElem_take] at this
        omega
def checkE (l : List Event) : Int := if 4096 < l.length then 2 else if ok l then 0 else 490
theorem check_spec (t : Bool) (l : List Event) (st : Store) : Rets P F.record_Check [Event.lst t l] st (.int (checkE l)) := by
  refine H.record_Check.pure hmix rfl rfl ?_
  repeat' (first
    | (with_reducible refine Fresh.intro fun b hb => ?_) <;> (try simp -dsimp -implicitDefEqProofs [*] at hb)
    | (with_reducible refine Rets.xcall (kinds_spec _) ?_)
    | (with_reducible refine Rets.xsoft (kinds_spec _) ?_)
    | (with_reducible refine xlateCall_of (fun _ => kinds_spec _) ?_)
    | (with_reducible refine Lit.imm ?_)
    | ((with_reducible refine Grow.intro ?_ fun b cap hb hc1 hc2 => ?_); omega) <;> (try simp -dsimp -implicitDefEqProofs [*] at hb)
    | (with_reducible refine RetView.nil2 ?_)
    | (with_reducible refine RetView.nil1 ?_)
    | (with_reducible refine RetView.loose2 (t := true) ?_)
    | (with_reducible refine RetView.loose1 (t := true) ?_)
    | (with_reducible refine RetView.fz 1 ?_ ?_)
    | (with_reducible refine RetView.same ?_)
    | (with_reducible refine DrawLate.intro [] ?_)
    | (with_reducible refine Cls_and ?_ ?_)
    | (with_reducible exact Cls.self _ _)
    | (with_reducible refine Cls_same ?_)
    | (with_reducible refine Cls_in ?_ ?_)
    | (with_reducible refine Cls_fresh ?_ ?_)
    | (with_reducible refine And.intro (fun h => ?_) (fun h => ?_)) <;> (try (exfalso; omega))
    | (with_reducible refine And.intro (fun h => ?_) ?_) <;> (try (exfalso; omega))
    | ((with_reducible refine and_keep ?_ fun hk => ?_); omega)
    | (simp -dsimp -implicitDefEqProofs [*]))
  · simp [checkE]; omega
  · refine xloop_for (fun i => [(0, Event.lst t l), (3, pvKinds), (10, Event.lst t l), (11, .int l.length), (12, .int (i : Nat))]) (fun _ => st) (fun i => i ≤ l.length ∧ ok (l.take i)) (fun i => l.length - i) 0 ?_ ?_ ?_ ?_
    · exact ⟨Nat.zero_le _, by simpa using ok_nil⟩
    · simp
    · exact StLe.refl _
    rintro i ⟨hi, hok⟩
    have hw := wrap_succ (n := i) (by omega)
    have hw2 : IntKind.i64.wrap ((i : Int) - 1) = (i : Int) - 1 := wrap_in (by omega) (by omega)
    have ht : ((i : Int) - 1).toNat = i - 1 := by omega
    repeat' (first
      | (with_reducible refine Fresh.intro fun b hb => ?_) <;> (try simp -dsimp -implicitDefEqProofs [*] at hb)
      | (with_reducible refine Rets.xcall (right_spec _ _) ?_)
      | (with_reducible refine Rets.xsoft (right_spec _ _) ?_)
      | (with_reducible refine xlateCall_of (fun _ => right_spec _ _) ?_)
      | (with_reducible refine Lit.imm ?_)
      | ((with_reducible refine Grow.intro ?_ fun b cap hb hc1 hc2 => ?_); omega) <;> (try simp -dsimp -implicitDefEqProofs [*] at hb)
      | (with_reducible refine RetView.nil2 ?_)
      | (with_reducible refine RetView.nil1 ?_)
      | (with_reducible refine RetView.loose2 (t := true) ?_)
      | (with_reducible refine RetView.loose1 (t := true) ?_)
      | (with_reducible refine RetView.fz 1 ?_ ?_)
      | (with_reducible refine RetView.same ?_)
      | (with_reducible refine DrawLate.intro [] ?_)
      | (with_reducible refine Cls_and ?_ ?_)
      | (with_reducible exact Cls.self _ _)
      | (with_reducible refine Cls_same ?_)
      | (with_reducible refine Cls_in ?_ ?_)
      | (with_reducible refine Cls_fresh ?_ ?_)
      | (with_reducible refine And.intro (fun h => ?_) (fun h => ?_)) <;> (try (exfalso; omega))
      | (with_reducible refine And.intro (fun h => ?_) ?_) <;> (try (exfalso; omega))
      | ((with_reducible refine and_keep ?_ fun hk => ?_); omega)
      | (simp -dsimp -implicitDefEqProofs [*]))
    · have h2 : ¬ ok l := fun hl => by
        have := (ok_snoc ‹_› hok).1 (ok_take hl (i + 1))
        have := this.2 ‹_› ‹_›
        omega
      simp [checkE, h2]; omega
    · refine Next.intro (i + 1) ⟨by omega, (ok_snoc ‹_› hok).2 ⟨‹_›, fun _ _ => by omega⟩⟩ (by omega) ?_ (by simp [*])
      simp [hw]
    · subst i
      refine Next.intro 1 ⟨by omega, (ok_snoc ‹_› hok).2 ⟨‹_›, fun h => by omega⟩⟩ (by omega) ?_ (by simp [*])
      simp
    · have h2 : ¬ ok l := fun hl => by
        have := (ok_snoc ‹_› hok).1 (ok_take hl (i + 1))
        simp_all
      simp [checkE, h2]; omega
    · rw [List.take_of_length_le ‹_›] at hok
      simp [checkE, hok]; omega
end Go.Proofs.Ytahdhdgglbcagaa
