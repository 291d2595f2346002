/- Appeals: what the kinds do. -/
import Derived.Test.YthkjdppifnmakaaS51B
namespace Go.Proofs.Ythkjdppifnmakaa
open Go.Pv
set_option maxRecDepth 100000
abbrev EM := KM Int Event
abbrev EM.o (M : EM) : PObj := KM.obj intKey Event.pv M
def strikeM (M : EM) (d : Decision) : EM := M.del d.target
def setVal (e : Event) (v : Int) : Event := ⟨e.no, e.kind, e.round, e.entry, e.judge, e.item, v, e.at', e.known⟩
def alterM (M : EM) (d : Decision) : EM := match M.look d.target with | some e => if rightE (setVal e d.value) then M.put d.target (setVal e d.value) else M | none => M
def addM (M : EM) (d : Decision) : EM := match M.look d.eno with | some _ => M | none => M.put d.eno d.event
theorem kinds2a_spec (M : EM) (d : Decision) (m : Nat) (st : Store) (hm : sget st m = some (EM.o M)) :
    Does P F.appeals_kinds_2 [.val (.map (some m)), d.pv] st (.tuple []) (sset st m (EM.o (strikeM M d))) := by
  refine H.appeals_kinds_2.view hmix rfl rfl ?_
  have hset := sset_same hm
  have hdel := KM.int_del Event.pv M d.target
  repeat' (first
    | (with_reducible refine Fresh.intro fun b hb => ?_) <;> (try simp -dsimp -implicitDefEqProofs [*] at hb)
    | (with_reducible refine Lit.imm ?_)
    | ((with_reducible refine Grow.intro ?_ fun b cap hb hc1 hc2 => ?_); omega) <;> (try simp -dsimp -implicitDefEqProofs [*] at hb)
    | (with_reducible refine DrawLate.intro [] ?_)
    | (with_reducible refine Cls_and ?_ ?_)
    | (with_reducible exact Cls.self _ _)
    | (with_reducible refine Cls_same ?_)
    | (with_reducible refine Cls_in ?_ ?_)
    | (with_reducible refine Cls_fresh ?_ ?_)
    | (with_reducible refine And.intro (fun h => ?_) (fun h => ?_)) <;> (try (exfalso; omega))
    | (with_reducible refine And.intro (fun h => ?_) ?_) <;> (try (exfalso; omega))
    | ((with_reducible refine and_keep ?_ fun hk => ?_); omega)
    | (simp -dsimp -implicitDefEqProofs [*]))
  have hne := snew_ne hb hm
  repeat' (first
    | (with_reducible refine Fresh.intro fun b hb => ?_) <;> (try simp -dsimp -implicitDefEqProofs [*] at hb)
    | (with_reducible refine Lit.imm ?_)
    | ((with_reducible refine Grow.intro ?_ fun b cap hb hc1 hc2 => ?_); omega) <;> (try simp -dsimp -implicitDefEqProofs [*] at hb)
    | (with_reducible refine DrawLate.intro [] ?_)
    | (with_reducible refine Cls_and ?_ ?_)
    | (with_reducible exact Cls.self _ _)
    | (with_reducible refine Cls_same ?_)
    | (with_reducible refine Cls_in ?_ ?_)
    | (with_reducible refine Cls_fresh ?_ ?_)
    | (with_reducible refine And.intro (fun h => ?_) (fun h => ?_)) <;> (try (exfalso; omega))
    | (with_reducible refine And.intro (fun h => ?_) ?_) <;> (try (exfalso; omega))
    | ((with_reducible refine and_keep ?_ fun hk => ?_); omega)
    | (simp -dsimp -implicitDefEqProofs [*]))
  exact .drop (st' := sset st m (EM.o (M.del d.target))) (by repeat' (first | exact StLe.refl _ | (refine StLe_cons (by simp [*]; done) ?_) | (refine StLe_fresh (by simp [*]; done) ?_))) ⟨rfl, rfl⟩
theorem kinds4a_spec (M : EM) (d : Decision) (m : Nat) (st : Store) (hm : sget st m = some (EM.o M)) :
    Does P F.appeals_kinds_4 [.val (.map (some m)), d.pv] st (.tuple []) (sset st m (EM.o (alterM M d))) := by
  refine H.appeals_kinds_4.view hmix rfl rfl ?_
  repeat' (first
    | (with_reducible refine Fresh.intro fun b hb => ?_) <;> (try simp -dsimp -implicitDefEqProofs [*] at hb)
    | (with_reducible refine Lit.imm ?_)
    | ((with_reducible refine Grow.intro ?_ fun b cap hb hc1 hc2 => ?_); omega) <;> (try simp -dsimp -implicitDefEqProofs [*] at hb)
    | (with_reducible refine DrawLate.intro [] ?_)
    | (with_reducible refine Cls_and ?_ ?_)
    | (with_reducible exact Cls.self _ _)
    | (with_reducible refine Cls_same ?_)
    | (with_reducible refine Cls_in ?_ ?_)
    | (with_reducible refine Cls_fresh ?_ ?_)
    | (with_reducible refine And.intro (fun h => ?_) (fun h => ?_)) <;> (try (exfalso; omega))
    | (with_reducible refine And.intro (fun h => ?_) ?_) <;> (try (exfalso; omega))
    | ((with_reducible refine and_keep ?_ fun hk => ?_); omega)
    | (simp -dsimp -implicitDefEqProofs [*]))
  have hne := snew_ne hb hm
  cases hl : KM.look M d.target with
  | none =>
    have hset := sset_same hm
    repeat' (first
      | (with_reducible refine Fresh.intro fun b hb => ?_) <;> (try simp -dsimp -implicitDefEqProofs [*] at hb)
      | (with_reducible refine Rets.xcall (valid_spec _ _) ?_)
      | (with_reducible refine Rets.xsoft (valid_spec _ _) ?_)
      | (with_reducible refine xlateCall_of (fun _ => valid_spec _ _) ?_)
      | (with_reducible refine Lit.imm ?_)
      | ((with_reducible refine Grow.intro ?_ fun b cap hb hc1 hc2 => ?_); omega) <;> (try simp -dsimp -implicitDefEqProofs [*] at hb)
      | (with_reducible refine DrawLate.intro [] ?_)
      | (with_reducible refine Cls_and ?_ ?_)
      | (with_reducible exact Cls.self _ _)
      | (with_reducible refine Cls_same ?_)
      | (with_reducible refine Cls_in ?_ ?_)
      | (with_reducible refine Cls_fresh ?_ ?_)
      | (with_reducible refine And.intro (fun h => ?_) (fun h => ?_)) <;> (try (exfalso; omega))
      | (with_reducible refine And.intro (fun h => ?_) ?_) <;> (try (exfalso; omega))
      | ((with_reducible refine and_keep ?_ fun hk => ?_); omega)
      | (simp -dsimp -implicitDefEqProofs [*]))
    have e1 : alterM M d = M := by simp [alterM, hl]
    rw [e1, hset]
    exact .drop (st' := st) (by repeat' (first | exact StLe.refl _ | (refine StLe_cons (by simp [*]; done) ?_) | (refine StLe_fresh (by simp [*]; done) ?_))) ⟨rfl, rfl⟩
  | some e =>
    repeat' (first
      | (with_reducible refine Fresh.intro fun b hb => ?_) <;> (try simp -dsimp -implicitDefEqProofs [*] at hb)
      | (with_reducible refine Rets.xcall (valid_spec _ _) ?_)
      | (with_reducible refine Rets.xsoft (valid_spec _ _) ?_)
      | (with_reducible refine xlateCall_of (fun _ => valid_spec _ _) ?_)
      | (with_reducible refine Lit.imm ?_)
      | ((with_reducible refine Grow.intro ?_ fun b cap hb hc1 hc2 => ?_); omega) <;> (try simp -dsimp -implicitDefEqProofs [*] at hb)
      | (with_reducible refine DrawLate.intro [] ?_)
      | (with_reducible refine Cls_and ?_ ?_)
      | (with_reducible exact Cls.self _ _)
      | (with_reducible refine Cls_same ?_)
      | (with_reducible refine Cls_in ?_ ?_)
      | (with_reducible refine Cls_fresh ?_ ?_)
      | (with_reducible refine And.intro (fun h => ?_) (fun h => ?_)) <;> (try (exfalso; omega))
      | (with_reducible refine And.intro (fun h => ?_) ?_) <;> (try (exfalso; omega))
      | ((with_reducible refine and_keep ?_ fun hk => ?_); omega)
      | (simp -dsimp -implicitDefEqProofs [*]))
    · have hne2 := snew_ne hb.2 hm
      have hput := KM.int_put Event.pv M d.target
      repeat' (first
        | (with_reducible refine Fresh.intro fun b hb => ?_) <;> (try simp -dsimp -implicitDefEqProofs [*] at hb)
        | (with_reducible refine Rets.xcall (valid_spec _ _) ?_)
        | (with_reducible refine Rets.xsoft (valid_spec _ _) ?_)
        | (with_reducible refine xlateCall_of (fun _ => valid_spec _ _) ?_)
        | (with_reducible refine Lit.imm ?_)
        | ((with_reducible refine Grow.intro ?_ fun b cap hb hc1 hc2 => ?_); omega) <;> (try simp -dsimp -implicitDefEqProofs [*] at hb)
        | (with_reducible refine DrawLate.intro [] ?_)
        | (with_reducible refine Cls_and ?_ ?_)
        | (with_reducible exact Cls.self _ _)
        | (with_reducible refine Cls_same ?_)
        | (with_reducible refine Cls_in ?_ ?_)
        | (with_reducible refine Cls_fresh ?_ ?_)
        | (with_reducible refine And.intro (fun h => ?_) (fun h => ?_)) <;> (try (exfalso; omega))
        | (with_reducible refine And.intro (fun h => ?_) ?_) <;> (try (exfalso; omega))
        | ((with_reducible refine and_keep ?_ fun hk => ?_); omega)
        | (simp -dsimp -implicitDefEqProofs [*]))
      have e1 : alterM M d = M.put d.target (setVal e d.value) := by simp [alterM, hl, setVal, h]
      rw [e1]
      exact .drop (st' := sset st m (EM.o (M.put d.target (setVal e d.value)))) (by repeat' (first | exact StLe.refl _ | (refine StLe_cons (by simp [*]; done) ?_) | (refine StLe_fresh (by simp [*]; done) ?_))) ⟨rfl, rfl⟩
    · have hset := sset_same hm
      have e1 : alterM M d = M := by simp [alterM, hl, setVal, h]
      rw [e1, hset]
      exact .drop (st' := st) (by repeat' (first | exact StLe.refl _ | (refine StLe_cons (by simp [*]; done) ?_) | (refine StLe_fresh (by simp [*]; done) ?_))) ⟨rfl, rfl⟩
theorem kinds6a_spec (M : EM) (d : Decision) (m : Nat) (st : Store) (hm : sget st m = some (EM.o M)) :
    Does P F.appeals_kinds_6 [.val (.map (some m)), d.pv] st (.tuple []) (sset st m (EM.o (addM M d))) := by
  refine H.appeals_kinds_6.view hmix rfl rfl ?_
  repeat' (first
    | (with_reducible refine Fresh.intro fun b hb => ?_) <;> (try simp -dsimp -implicitDefEqProofs [*] at hb)
    | (with_reducible refine Lit.imm ?_)
    | ((with_reducible refine Grow.intro ?_ fun b cap hb hc1 hc2 => ?_); omega) <;> (try simp -dsimp -implicitDefEqProofs [*] at hb)
    | (with_reducible refine DrawLate.intro [] ?_)
    | (with_reducible refine Cls_and ?_ ?_)
    | (with_reducible exact Cls.self _ _)
    | (with_reducible refine Cls_same ?_)
    | (with_reducible refine Cls_in ?_ ?_)
    | (with_reducible refine Cls_fresh ?_ ?_)
    | (with_reducible refine And.intro (fun h => ?_) (fun h => ?_)) <;> (try (exfalso; omega))
    | (with_reducible refine And.intro (fun h => ?_) ?_) <;> (try (exfalso; omega))
    | ((with_reducible refine and_keep ?_ fun hk => ?_); omega)
    | (simp -dsimp -implicitDefEqProofs [*]))
  have hne := snew_ne hb hm
  cases hl : KM.look M d.eno with
  | none =>
    repeat' (first
      | (with_reducible refine Fresh.intro fun b hb => ?_) <;> (try simp -dsimp -implicitDefEqProofs [*] at hb)
      | (with_reducible refine Rets.xcall (valid_spec _ _) ?_)
      | (with_reducible refine Rets.xsoft (valid_spec _ _) ?_)
      | (with_reducible refine xlateCall_of (fun _ => valid_spec _ _) ?_)
      | (with_reducible refine Lit.imm ?_)
      | ((with_reducible refine Grow.intro ?_ fun b cap hb hc1 hc2 => ?_); omega) <;> (try simp -dsimp -implicitDefEqProofs [*] at hb)
      | (with_reducible refine DrawLate.intro [] ?_)
      | (with_reducible refine Cls_and ?_ ?_)
      | (with_reducible exact Cls.self _ _)
      | (with_reducible refine Cls_same ?_)
      | (with_reducible refine Cls_in ?_ ?_)
      | (with_reducible refine Cls_fresh ?_ ?_)
      | (with_reducible refine And.intro (fun h => ?_) (fun h => ?_)) <;> (try (exfalso; omega))
      | (with_reducible refine And.intro (fun h => ?_) ?_) <;> (try (exfalso; omega))
      | ((with_reducible refine and_keep ?_ fun hk => ?_); omega)
      | (simp -dsimp -implicitDefEqProofs [*]))
    have hne2 := snew_ne hb.2 hm
    have hput := KM.int_put Event.pv M d.eno
    repeat' (first
      | (with_reducible refine Fresh.intro fun b hb => ?_) <;> (try simp -dsimp -implicitDefEqProofs [*] at hb)
      | (with_reducible refine Rets.xcall (valid_spec _ _) ?_)
      | (with_reducible refine Rets.xsoft (valid_spec _ _) ?_)
      | (with_reducible refine xlateCall_of (fun _ => valid_spec _ _) ?_)
      | (with_reducible refine Lit.imm ?_)
      | ((with_reducible refine Grow.intro ?_ fun b cap hb hc1 hc2 => ?_); omega) <;> (try simp -dsimp -implicitDefEqProofs [*] at hb)
      | (with_reducible refine DrawLate.intro [] ?_)
      | (with_reducible refine Cls_and ?_ ?_)
      | (with_reducible exact Cls.self _ _)
      | (with_reducible refine Cls_same ?_)
      | (with_reducible refine Cls_in ?_ ?_)
      | (with_reducible refine Cls_fresh ?_ ?_)
      | (with_reducible refine And.intro (fun h => ?_) (fun h => ?_)) <;> (try (exfalso; omega))
      | (with_reducible refine And.intro (fun h => ?_) ?_) <;> (try (exfalso; omega))
      | ((with_reducible refine and_keep ?_ fun hk => ?_); omega)
      | (simp -dsimp -implicitDefEqProofs [*]))
    have e1 : addM M d = M.put d.eno d.event := by simp [addM, hl]
    rw [e1]
    exact .drop (st' := sset st m (EM.o (M.put d.eno d.event))) (by repeat' (first | exact StLe.refl _ | (refine StLe_cons (by simp [*]; done) ?_) | (refine StLe_fresh (by simp [*]; done) ?_))) ⟨rfl, rfl⟩
  | some e =>
    have hset := sset_same hm
    repeat' (first
      | (with_reducible refine Fresh.intro fun b hb => ?_) <;> (try simp -dsimp -implicitDefEqProofs [*] at hb)
      | (with_reducible refine Rets.xcall (valid_spec _ _) ?_)
      | (with_reducible refine Rets.xsoft (valid_spec _ _) ?_)
      | (with_reducible refine xlateCall_of (fun _ => valid_spec _ _) ?_)
      | (with_reducible refine Lit.imm ?_)
      | ((with_reducible refine Grow.intro ?_ fun b cap hb hc1 hc2 => ?_); omega) <;> (try simp -dsimp -implicitDefEqProofs [*] at hb)
      | (with_reducible refine DrawLate.intro [] ?_)
      | (with_reducible refine Cls_and ?_ ?_)
      | (with_reducible exact Cls.self _ _)
      | (with_reducible refine Cls_same ?_)
      | (with_reducible refine Cls_in ?_ ?_)
      | (with_reducible refine Cls_fresh ?_ ?_)
      | (with_reducible refine And.intro (fun h => ?_) (fun h => ?_)) <;> (try (exfalso; omega))
      | (with_reducible refine And.intro (fun h => ?_) ?_) <;> (try (exfalso; omega))
      | ((with_reducible refine and_keep ?_ fun hk => ?_); omega)
      | (simp -dsimp -implicitDefEqProofs [*]))
    have e1 : addM M d = M := by simp [addM, hl]
    rw [e1, hset]
    exact .drop (st' := st) (by repeat' (first | exact StLe.refl _ | (refine StLe_cons (by simp [*]; done) ?_) | (refine StLe_fresh (by simp [*]; done) ?_))) ⟨rfl, rfl⟩
end Go.Proofs.Ythkjdppifnmakaa
/- Appeals: Check. -/
namespace Go.Proofs.Ythkjdppifnmakaa
open Go.Pv
set_option maxRecDepth 100000
def rightD (d : Decision) : Bool := if d.kind = 1 then strikeD d else if d.kind = 2 then alterD d else if d.kind = 3 then addD d else false
def validD (d : Decision) : Bool := btw d.no 0 1048576 && btw d.known 0 2097151 && rightD d
def okD (l : List Decision) : Prop := (∀ e ∈ l, validD e = true) ∧ l.Pairwise (fun a b => a.no < b.no)
instance (l : List Decision) : Decidable (okD l) := inferInstanceAs (Decidable (_ ∧ _))
def lastD (l : List Decision) : Int := match l.getLast? with | some e => e.no | none => -1
@[simp] theorem lastD_nil : lastD [] = -1 := rfl
@[simp] theorem lastD_snoc (l : List Decision) (x : Decision) : lastD (l ++ [x]) = x.no := by simp [lastD]
theorem validD_no {e : Decision} (h : validD e = true) : 0 ≤ e.no ∧ e.no ≤ 1048576 := by
  unfold validD btw at h
  simp at h
  omega
theorem okD_nil : okD [] := ⟨by simp, .nil⟩
theorem okD_last {l : List Decision} (h : okD l) : ∀ z ∈ l, z.no ≤ lastD l := by
  intro z hz
  rcases List.eq_nil_or_concat l with rfl | ⟨L, x, rfl⟩
  · simp at hz
  · rw [List.concat_eq_append] at *
    rw [lastD_snoc]
    rcases List.mem_append.1 hz with hz | hz
    · have := (List.pairwise_append.1 h.2).2.2 z hz x (by simp)
      omega
    · simp at hz; subst hz; omega
theorem okD_snoc {l : List Decision} {x : Decision} (h : okD l) : okD (l ++ [x]) ↔ validD x = true ∧ lastD l < x.no := by
  constructor
  · rintro ⟨h1, h2⟩
    refine ⟨h1 x (by simp), ?_⟩
    rcases List.eq_nil_or_concat l with rfl | ⟨L, y, rfl⟩
    · have := validD_no (h1 x (by simp)); simp; omega
    · rw [List.concat_eq_append] at *
      rw [lastD_snoc]
      exact (List.pairwise_append.1 h2).2.2 y (by simp) x (by simp)
  · rintro ⟨h1, h2⟩
    refine ⟨fun z hz => ?_, List.pairwise_append.2 ⟨h.2, by simp, fun z hz y hy => ?_⟩⟩
    · rcases List.mem_append.1 hz with hz | hz
      · exact h.1 z hz
      · simp at hz; subst hz; exact h1
    · simp at hy; subst hy
      have := okD_last h z hz
      omega
theorem okD_take {l : List Decision} (h : okD l) (i : Nat) : okD (l.take i) := ⟨fun e he => h.1 e (List.mem_of_mem_take he), h.2.sublist (List.take_sublist _ _)⟩
theorem okD_step {l : List Decision} {i : Nat} (hi : i < l.length) (h : okD (l.take i)) : okD (l.take (i + 1)) ↔ validD l[i] = true ∧ lastD (l.take i) < l[i].no := by
  rw [List.take_succ_eq_append_getElem hi]
  exact okD_snoc h
def checkD (l : List Decision) : Int := if 4096 < l.length then 2 else if okD l then 0 else 510
theorem checkD_zero {l : List Decision} : checkD l = 0 ↔ l.length ≤ 4096 ∧ okD l := by
  unfold checkD
  split
  · constructor <;> intro h <;> omega
  · split
    · constructor
      · intro _; exact ⟨by omega, by assumption⟩
      · intro _; rfl
    · constructor
      · intro h; omega
      · intro h; exact absurd h.2 (by assumption)
theorem checkD_no {l : List Decision} {i : Nat} (hi : i < l.length) (h : okD (l.take i)) (hl : l.length ≤ 4096) (hn : validD l[i] = false ∨ l[i].no ≤ lastD (l.take i)) : checkD l = 510 := by
  have h2 : ¬ okD l := fun hk => by
    have := (okD_step hi h).1 (okD_take hk (i + 1))
    rcases hn with hn | hn
    · rw [hn] at this; exact absurd this.1 (by simp)
    · omega
  rw [checkD, if_neg (by omega), if_neg h2]
theorem lastD_step {l : List Decision} {i : Nat} (hi : i < l.length) : lastD (l.take (i + 1)) = l[i].no := by
  rw [List.take_succ_eq_append_getElem hi, lastD_snoc]
theorem lastD_range {l : List Decision} (h : okD l) : -1 ≤ lastD l := by
  rcases List.eq_nil_or_concat l with rfl | ⟨L, y, rfl⟩
  · simp
  · rw [List.concat_eq_append] at *
    rw [lastD_snoc]
    have := validD_no (h.1 y (by simp))
    omega
theorem validD_out {d : Decision} (h : d.kind < 1 ∨ 3 < d.kind ∨ 1048576 < d.no ∨ d.known < 0 ∨ 2097152 ≤ d.known) : validD d = false := by
  unfold validD btw rightD
  rcases h with h | h | h | h | h
  · have : ¬ d.kind = 1 ∧ ¬ d.kind = 2 ∧ ¬ d.kind = 3 := by omega
    simp [this]
  · have : ¬ d.kind = 1 ∧ ¬ d.kind = 2 ∧ ¬ d.kind = 3 := by omega
    simp [this]
  all_goals simp
  all_goals (intros; omega)
theorem validD_in {d : Decision} {last : Int} (h0 : -1 ≤ last) (h1 : last < d.no) (h2 : d.no ≤ 1048576) (h3 : 0 ≤ d.known) (h4 : d.known < 2097152) : validD d = rightD d := by
  unfold validD btw
  have : 0 ≤ d.no ∧ d.known ≤ 2097151 := by omega
  simp [*]
@[simp] theorem allKinds_len : allKinds.length = 8 := rfl
theorem checkD_spec (t : Bool) (l : List Decision) (st : Store) : Rets P F.appeals_Check [Decision.lst t l] st (.int (checkD l)) := by
  refine H.appeals_Check.pure hmix rfl rfl ?_
  repeat' (first
    | (with_reducible refine Fresh.intro fun b hb => ?_) <;> (try simp -dsimp -implicitDefEqProofs [*] at hb)
    | (with_reducible refine Rets.xcall (kindsA_spec _) ?_)
    | (with_reducible refine Rets.xsoft (kindsA_spec _) ?_)
    | (with_reducible refine xlateCall_of (fun _ => kindsA_spec _) ?_)
    | (with_reducible refine Lit.imm ?_)
    | ((with_reducible refine Grow.intro ?_ fun b cap hb hc1 hc2 => ?_); omega) <;> (try simp -dsimp -implicitDefEqProofs [*] at hb)
    | (with_reducible refine RetView.nil2 ?_)
    | (with_reducible refine RetView.nil1 ?_)
    | (with_reducible refine RetView.loose2 (t := true) ?_)
    | (with_reducible refine RetView.loose1 (t := true) ?_)
    | (with_reducible refine RetView.fz 1 ?_ ?_)
    | (with_reducible refine RetView.same ?_)
    | (with_reducible refine DrawLate.intro [] ?_)
    | (with_reducible refine Cls_and ?_ ?_)
    | (with_reducible exact Cls.self _ _)
    | (with_reducible refine Cls_same ?_)
    | (with_reducible refine Cls_in ?_ ?_)
    | (with_reducible refine Cls_fresh ?_ ?_)
    | (with_reducible refine And.intro (fun h => ?_) (fun h => ?_)) <;> (try (exfalso; omega))
    | (with_reducible refine And.intro (fun h => ?_) ?_) <;> (try (exfalso; omega))
    | ((with_reducible refine and_keep ?_ fun hk => ?_); omega)
    | (simp -dsimp -implicitDefEqProofs [*]))
  · simp [checkD]; omega
  · refine xloop_for (fun i => [(0, Decision.lst t l), (3, .ptr b 0), (4, .int (lastD (l.take i))), (11, Decision.lst t l), (12, .int l.length), (13, .int (i : Nat))]) (fun _ => (b, .arr T.t4appealskind allKinds) :: st) (fun i => i ≤ l.length ∧ okD (l.take i)) (fun i => l.length - i) 0 ?_ ?_ ?_ ?_
    · exact ⟨Nat.zero_le _, by simpa using okD_nil⟩
    · simp
    · exact StLe.refl _
    rintro i ⟨hi, hok⟩
    have hw := wrap_succ (n := i) (by omega)
    have hlr := lastD_range hok
    have hno := fun (hil : i < l.length) hn => (checkD_no hil hok (by omega) hn)
    have hst := fun (hil : i < l.length) => (okD_step hil hok)
    have hls := fun (hil : i < l.length) => (lastD_step hil)
    have hfin : l.length ≤ i → checkD l = 0 := fun h => by rw [List.take_of_length_le h] at hok; exact (checkD_zero.2 ⟨by omega, hok⟩)
    clear hok
    generalize hlast : lastD (l.take i) = last at *
    by_cases hil : i < l.length
    · replace hno := hno hil
      replace hst := hst hil
      replace hls := hls hil
      clear hfin
      generalize hd : l[i] = d at *
      have hk4 : d.kind = 1 ∨ d.kind = 2 ∨ d.kind = 3 ∨ d.kind < 1 ∨ 3 < d.kind := by omega
      have fin : last < d.no → d.no ≤ 1048576 → 0 ≤ d.known → d.known < 2097152 → rightD d = true → okD (l.take (i + 1)) := fun h1 h2 h3 h4 h5 => hst.2 ⟨by rw [validD_in hlr h1 h2 h3 h4]; exact h5, h1⟩
      have bad : last < d.no → d.no ≤ 1048576 → 0 ≤ d.known → d.known < 2097152 → rightD d = false → checkD l = 510 := fun h1 h2 h3 h4 h5 => hno (.inl (by rw [validD_in hlr h1 h2 h3 h4]; exact h5))
      have out : d.kind < 1 ∨ 3 < d.kind ∨ 1048576 < d.no ∨ d.known < 0 ∨ 2097152 ≤ d.known → checkD l = 510 := fun h => hno (.inl (validD_out h))
      have low : d.no ≤ last → checkD l = 510 := fun h => hno (.inr h)
      clear hst hno
      rcases hk4 with hk1 | hk1 | hk1 | hk1 | hk1
      · have hr : rightD d = strikeD d := by simp [rightD, hk1]
        rw [hr] at fin bad
        repeat' (first
          | (with_reducible refine Fresh.intro fun b hb => ?_) <;> (try simp -dsimp -implicitDefEqProofs [*] at hb)
          | (with_reducible refine Rets.xcall (kinds1a_spec _ _) ?_)
          | (with_reducible refine Rets.xsoft (kinds1a_spec _ _) ?_)
          | (with_reducible refine xlateCall_of (fun _ => kinds1a_spec _ _) ?_)
          | (with_reducible refine Rets.xcall (kinds3a_spec _ _) ?_)
          | (with_reducible refine Rets.xsoft (kinds3a_spec _ _) ?_)
          | (with_reducible refine xlateCall_of (fun _ => kinds3a_spec _ _) ?_)
          | (with_reducible refine Rets.xcall (kinds5a_spec _ _) ?_)
          | (with_reducible refine Rets.xsoft (kinds5a_spec _ _) ?_)
          | (with_reducible refine xlateCall_of (fun _ => kinds5a_spec _ _) ?_)
          | (with_reducible refine Lit.imm ?_)
          | ((with_reducible refine Grow.intro ?_ fun b cap hb hc1 hc2 => ?_); omega) <;> (try simp -dsimp -implicitDefEqProofs [*] at hb)
          | (with_reducible refine RetView.nil2 ?_)
          | (with_reducible refine RetView.nil1 ?_)
          | (with_reducible refine RetView.loose2 (t := true) ?_)
          | (with_reducible refine RetView.loose1 (t := true) ?_)
          | (with_reducible refine RetView.fz 1 ?_ ?_)
          | (with_reducible refine RetView.same ?_)
          | (with_reducible refine DrawLate.intro [] ?_)
          | (with_reducible refine Cls_and ?_ ?_)
          | (with_reducible exact Cls.self _ _)
          | (with_reducible refine Cls_same ?_)
          | (with_reducible refine Cls_in ?_ ?_)
          | (with_reducible refine Cls_fresh ?_ ?_)
          | (with_reducible refine And.intro (fun h => ?_) (fun h => ?_)) <;> (try (exfalso; omega))
          | (with_reducible refine And.intro (fun h => ?_) ?_) <;> (try (exfalso; omega))
          | ((with_reducible refine and_keep ?_ fun hk => ?_); omega)
          | (simp -dsimp -implicitDefEqProofs [allKinds, *]))
        refine Next.intro (i + 1) ⟨by omega, fin ‹_› ‹_› ‹_› ‹_› ‹_›⟩ (by omega) (by simp [*]) ?_
        exact StLe.fresh (by simp [*])
      · have hr : rightD d = alterD d := by simp [rightD, hk1]
        rw [hr] at fin bad
        repeat' (first
          | (with_reducible refine Fresh.intro fun b hb => ?_) <;> (try simp -dsimp -implicitDefEqProofs [*] at hb)
          | (with_reducible refine Rets.xcall (kinds1a_spec _ _) ?_)
          | (with_reducible refine Rets.xsoft (kinds1a_spec _ _) ?_)
          | (with_reducible refine xlateCall_of (fun _ => kinds1a_spec _ _) ?_)
          | (with_reducible refine Rets.xcall (kinds3a_spec _ _) ?_)
          | (with_reducible refine Rets.xsoft (kinds3a_spec _ _) ?_)
          | (with_reducible refine xlateCall_of (fun _ => kinds3a_spec _ _) ?_)
          | (with_reducible refine Rets.xcall (kinds5a_spec _ _) ?_)
          | (with_reducible refine Rets.xsoft (kinds5a_spec _ _) ?_)
          | (with_reducible refine xlateCall_of (fun _ => kinds5a_spec _ _) ?_)
          | (with_reducible refine Lit.imm ?_)
          | ((with_reducible refine Grow.intro ?_ fun b cap hb hc1 hc2 => ?_); omega) <;> (try simp -dsimp -implicitDefEqProofs [*] at hb)
          | (with_reducible refine RetView.nil2 ?_)
          | (with_reducible refine RetView.nil1 ?_)
          | (with_reducible refine RetView.loose2 (t := true) ?_)
          | (with_reducible refine RetView.loose1 (t := true) ?_)
          | (with_reducible refine RetView.fz 1 ?_ ?_)
          | (with_reducible refine RetView.same ?_)
          | (with_reducible refine DrawLate.intro [] ?_)
          | (with_reducible refine Cls_and ?_ ?_)
          | (with_reducible exact Cls.self _ _)
          | (with_reducible refine Cls_same ?_)
          | (with_reducible refine Cls_in ?_ ?_)
          | (with_reducible refine Cls_fresh ?_ ?_)
          | (with_reducible refine And.intro (fun h => ?_) (fun h => ?_)) <;> (try (exfalso; omega))
          | (with_reducible refine And.intro (fun h => ?_) ?_) <;> (try (exfalso; omega))
          | ((with_reducible refine and_keep ?_ fun hk => ?_); omega)
          | (simp -dsimp -implicitDefEqProofs [allKinds, *]))
        refine Next.intro (i + 1) ⟨by omega, fin ‹_› ‹_› ‹_› ‹_› ‹_›⟩ (by omega) (by simp [*]) ?_
        exact StLe.fresh (by simp [*])
      · have hr : rightD d = addD d := by simp [rightD, hk1]
        rw [hr] at fin bad
        repeat' (first
          | (with_reducible refine Fresh.intro fun b hb => ?_) <;> (try simp -dsimp -implicitDefEqProofs [*] at hb)
          | (with_reducible refine Rets.xcall (kinds1a_spec _ _) ?_)
          | (with_reducible refine Rets.xsoft (kinds1a_spec _ _) ?_)
          | (with_reducible refine xlateCall_of (fun _ => kinds1a_spec _ _) ?_)
          | (with_reducible refine Rets.xcall (kinds3a_spec _ _) ?_)
          | (with_reducible refine Rets.xsoft (kinds3a_spec _ _) ?_)
          | (with_reducible refine xlateCall_of (fun _ => kinds3a_spec _ _) ?_)
          | (with_reducible refine Rets.xcall (kinds5a_spec _ _) ?_)
          | (with_reducible refine Rets.xsoft (kinds5a_spec _ _) ?_)
          | (with_reducible refine xlateCall_of (fun _ => kinds5a_spec _ _) ?_)
          | (with_reducible refine Lit.imm ?_)
          | ((with_reducible refine Grow.intro ?_ fun b cap hb hc1 hc2 => ?_); omega) <;> (try simp -dsimp -implicitDefEqProofs [*] at hb)
          | (with_reducible refine RetView.nil2 ?_)
          | (with_reducible refine RetView.nil1 ?_)
          | (with_reducible refine RetView.loose2 (t := true) ?_)
          | (with_reducible refine RetView.loose1 (t := true) ?_)
          | (with_reducible refine RetView.fz 1 ?_ ?_)
          | (with_reducible refine RetView.same ?_)
          | (with_reducible refine DrawLate.intro [] ?_)
          | (with_reducible refine Cls_and ?_ ?_)
          | (with_reducible exact Cls.self _ _)
          | (with_reducible refine Cls_same ?_)
          | (with_reducible refine Cls_in ?_ ?_)
          | (with_reducible refine Cls_fresh ?_ ?_)
          | (with_reducible refine And.intro (fun h => ?_) (fun h => ?_)) <;> (try (exfalso; omega))
          | (with_reducible refine And.intro (fun h => ?_) ?_) <;> (try (exfalso; omega))
          | ((with_reducible refine and_keep ?_ fun hk => ?_); omega)
          | (simp -dsimp -implicitDefEqProofs [allKinds, *]))
        refine Next.intro (i + 1) ⟨by omega, fin ‹_› ‹_› ‹_› ‹_› ‹_›⟩ (by omega) (by simp [*]) ?_
        exact StLe.fresh (by simp [*])
      · repeat' (first
          | (with_reducible refine Fresh.intro fun b hb => ?_) <;> (try simp -dsimp -implicitDefEqProofs [*] at hb)
          | (with_reducible refine Lit.imm ?_)
          | ((with_reducible refine Grow.intro ?_ fun b cap hb hc1 hc2 => ?_); omega) <;> (try simp -dsimp -implicitDefEqProofs [*] at hb)
          | (with_reducible refine RetView.nil2 ?_)
          | (with_reducible refine RetView.nil1 ?_)
          | (with_reducible refine RetView.loose2 (t := true) ?_)
          | (with_reducible refine RetView.loose1 (t := true) ?_)
          | (with_reducible refine RetView.fz 1 ?_ ?_)
          | (with_reducible refine RetView.same ?_)
          | (with_reducible refine DrawLate.intro [] ?_)
          | (with_reducible refine Cls_and ?_ ?_)
          | (with_reducible exact Cls.self _ _)
          | (with_reducible refine Cls_same ?_)
          | (with_reducible refine Cls_in ?_ ?_)
          | (with_reducible refine Cls_fresh ?_ ?_)
          | (with_reducible refine And.intro (fun h => ?_) (fun h => ?_)) <;> (try (exfalso; omega))
          | (with_reducible refine And.intro (fun h => ?_) ?_) <;> (try (exfalso; omega))
          | ((with_reducible refine and_keep ?_ fun hk => ?_); omega)
          | (simp -dsimp -implicitDefEqProofs [*]))
        all_goals done
      · repeat' (first
          | (with_reducible refine Fresh.intro fun b hb => ?_) <;> (try simp -dsimp -implicitDefEqProofs [*] at hb)
          | (with_reducible refine Lit.imm ?_)
          | ((with_reducible refine Grow.intro ?_ fun b cap hb hc1 hc2 => ?_); omega) <;> (try simp -dsimp -implicitDefEqProofs [*] at hb)
          | (with_reducible refine RetView.nil2 ?_)
          | (with_reducible refine RetView.nil1 ?_)
          | (with_reducible refine RetView.loose2 (t := true) ?_)
          | (with_reducible refine RetView.loose1 (t := true) ?_)
          | (with_reducible refine RetView.fz 1 ?_ ?_)
          | (with_reducible refine RetView.same ?_)
          | (with_reducible refine DrawLate.intro [] ?_)
          | (with_reducible refine Cls_and ?_ ?_)
          | (with_reducible exact Cls.self _ _)
          | (with_reducible refine Cls_same ?_)
          | (with_reducible refine Cls_in ?_ ?_)
          | (with_reducible refine Cls_fresh ?_ ?_)
          | (with_reducible refine And.intro (fun h => ?_) (fun h => ?_)) <;> (try (exfalso; omega))
          | (with_reducible refine And.intro (fun h => ?_) ?_) <;> (try (exfalso; omega))
          | ((with_reducible refine and_keep ?_ fun hk => ?_); omega)
          | (simp -dsimp -implicitDefEqProofs [*]))
        all_goals done
    · repeat' (first
        | (with_reducible refine Fresh.intro fun b hb => ?_) <;> (try simp -dsimp -implicitDefEqProofs [*] at hb)
        | (with_reducible refine Lit.imm ?_)
        | ((with_reducible refine Grow.intro ?_ fun b cap hb hc1 hc2 => ?_); omega) <;> (try simp -dsimp -implicitDefEqProofs [*] at hb)
        | (with_reducible refine RetView.nil2 ?_)
        | (with_reducible refine RetView.nil1 ?_)
        | (with_reducible refine RetView.loose2 (t := true) ?_)
        | (with_reducible refine RetView.loose1 (t := true) ?_)
        | (with_reducible refine RetView.fz 1 ?_ ?_)
        | (with_reducible refine RetView.same ?_)
        | (with_reducible refine DrawLate.intro [] ?_)
        | (with_reducible refine Cls_and ?_ ?_)
        | (with_reducible exact Cls.self _ _)
        | (with_reducible refine Cls_same ?_)
        | (with_reducible refine Cls_in ?_ ?_)
        | (with_reducible refine Cls_fresh ?_ ?_)
        | (with_reducible refine And.intro (fun h => ?_) (fun h => ?_)) <;> (try (exfalso; omega))
        | (with_reducible refine And.intro (fun h => ?_) ?_) <;> (try (exfalso; omega))
        | ((with_reducible refine and_keep ?_ fun hk => ?_); omega)
        | (simp -dsimp -implicitDefEqProofs [*]))
      exact (hfin (by omega)).symm
end Go.Proofs.Ythkjdppifnmakaa
