/- The reference's Standing and Add. -/
import Derived.Test.YtahdhdgglbcagaaS49E
namespace Go.Proofs.Ytahdhdgglbcagaa
open Go.Pv
set_option maxRecDepth 100000
def timeE (d t : Int) : Bool := btw d 0 2097151 && btw t 0 2097151
def standN (l : List Event) (d t : Int) : Int := if checkE l ≠ 0 then checkE l else if timeE d t then 0 else 1
def standL (l : List Event) (d t : Int) : List Event := if standN l d t = 0 then l.filter fun x => stands l x d t else []
theorem filter_snoc {α : Type} (f : α → Bool) (l : List α) (i : Nat) (h : i < l.length) : (l.take (i + 1)).filter f = (l.take i).filter f ++ if f l[i] then [l[i]] else [] := by
  rw [List.take_succ_eq_append_getElem h, List.filter_append]
  congr 1
  by_cases hf : f l[i] <;> simp [hf]
theorem filter_take_le {α : Type} (f : α → Bool) (l : List α) (i : Nat) : ((l.take i).filter f).length ≤ i :=
  Nat.le_trans (List.length_filter_le ..) (List.length_take_le ..)
theorem refStanding_spec (tt : Bool) (l : List Event) (d t : Int) (st : Store) : Rets P F.podiumref49_Standing [Event.lst tt l, .int d, .int t] st (.tuple [Event.lst false (standL l d t), .int (standN l d t)]) := by
  refine H.podiumref49_Standing.view hmix rfl rfl ?_
  by_cases hc : checkE l = 0
  · obtain ⟨hl, hok⟩ := checkE_zero.1 hc
    by_cases ht : timeE d t = true
    · have h1 : 0 ≤ d ∧ d < 2097152 ∧ 0 ≤ t ∧ t < 2097152 := by simp [timeE, btw] at ht; omega
      have hN : standN l d t = 0 := by simp_all [standN]
      have hL : standL l d t = l.filter fun x => stands l x d t := by simp [standL, hN]
      repeat' (first
        | (with_reducible refine Fresh.intro fun b hb => ?_) <;> (try simp -dsimp -implicitDefEqProofs [*] at hb)
        | (with_reducible refine Rets.xcall (refCheck_spec _ _ _) ?_)
        | (with_reducible refine Rets.xsoft (refCheck_spec _ _ _) ?_)
        | (with_reducible refine xlateCall_of (fun _ => refCheck_spec _ _ _) ?_)
        | (with_reducible refine Lit.own (cs := []) (len := 0) fun b hb => ?_) <;> (try simp -dsimp -implicitDefEqProofs [*] at hb)
        | (with_reducible refine Lit.imm ?_)
        | ((with_reducible refine Grow.intro ?_ fun b cap hb hc1 hc2 => ?_); omega) <;> (try simp -dsimp -implicitDefEqProofs [*] at hb)
        | (with_reducible refine DrawLate.intro [] ?_)
        | (with_reducible refine Cls_and ?_ ?_)
        | (with_reducible exact Cls.self _ _)
        | (with_reducible refine Cls_same ?_)
        | (with_reducible refine Cls_in ?_ ?_)
        | (with_reducible refine Cls_fresh ?_ ?_)
        | (with_reducible refine And.intro (fun h => ?_) (fun h => ?_)) <;> (try (exfalso; omega))
        | (with_reducible refine And.intro (fun h => ?_) ?_) <;> (try (exfalso; omega))
        | ((with_reducible refine and_keep ?_ fun hk => ?_); omega)
        | (simp -dsimp -implicitDefEqProofs [*]))
      refine xloop_for (fun y : Nat × Acc Event => [(0, Event.lst tt l), (1, .int d), (2, .int t), (9, .own y.2.b 0 y.2.l.length y.2.cap), (10, .int (y.1 : Nat))]) (fun y => (y.2.b, .arr T.apiEvent y.2.R) :: st)
        (fun y => y.1 ≤ l.length ∧ y.2.Ok Event.row 9 ∧ snew st y.2.b ∧ ((l.take y.1).filter fun x => stands l x d t) = y.2.l) (fun y => l.length - y.1) (0, ⟨[], b, 0, []⟩) ?_ ?_ ?_ ?_
      · exact ⟨Nat.zero_le _, .nil rfl _, hb, rfl⟩
      · simp
      · simp
      rintro ⟨i, a⟩ ⟨hi, ha, hb, hF⟩
      simp only at hi ha hb hF
      have hw := wrap_succ (n := i) (by omega)
      have hfl := filter_take_le (fun x => stands l x d t) l i
      rw [hF] at hfl
      repeat' (first
        | (with_reducible refine Fresh.intro fun b hb => ?_) <;> (try simp -dsimp -implicitDefEqProofs [*] at hb)
        | (with_reducible refine Rets.xcall (stands_spec _ _ (by omega) _ _ _ _) ?_)
        | (with_reducible refine Rets.xsoft (stands_spec _ _ (by omega) _ _ _ _) ?_)
        | (with_reducible refine xlateCall_of (fun _ => stands_spec _ _ (by omega) _ _ _ _) ?_)
        | (with_reducible refine Lit.imm ?_)
        | ((with_reducible refine Grow.intro ?_ fun b cap hb hc1 hc2 => ?_); omega) <;> (try simp -dsimp -implicitDefEqProofs [*] at hb)
        | (with_reducible refine DrawLate.intro [] ?_)
        | (with_reducible refine Cls_and ?_ ?_)
        | (with_reducible exact Cls.self _ _)
        | (with_reducible refine Cls_same ?_)
        | (with_reducible refine Cls_in ?_ ?_)
        | (with_reducible refine Cls_fresh ?_ ?_)
        | (with_reducible refine And.intro (fun h => ?_) (fun h => ?_)) <;> (try (exfalso; omega))
        | (with_reducible refine And.intro (fun h => ?_) ?_) <;> (try (exfalso; omega))
        | ((with_reducible refine and_keep ?_ fun hk => ?_); omega)
        | (simp -dsimp -implicitDefEqProofs [*]))
      · refine xappend_acc Event.row_len Event.row_append ha (by simp) [l[i]] (by simp) (by simp) (by omega) fun a' ha' hl' hb' => ?_
        repeat' (first
          | (with_reducible refine Fresh.intro fun b hb => ?_) <;> (try simp -dsimp -implicitDefEqProofs [*] at hb)
          | (with_reducible refine Lit.imm ?_)
          | ((with_reducible refine Grow.intro ?_ fun b cap hb hc1 hc2 => ?_); omega) <;> (try simp -dsimp -implicitDefEqProofs [*] at hb)
          | (with_reducible refine DrawLate.intro [] ?_)
          | (with_reducible refine Cls_and ?_ ?_)
          | (with_reducible exact Cls.self _ _)
          | (with_reducible refine Cls_same ?_)
          | (with_reducible refine Cls_in ?_ ?_)
          | (with_reducible refine Cls_fresh ?_ ?_)
          | (with_reducible refine And.intro (fun h => ?_) (fun h => ?_)) <;> (try (exfalso; omega))
          | (with_reducible refine And.intro (fun h => ?_) ?_) <;> (try (exfalso; omega))
          | ((with_reducible refine and_keep ?_ fun hk => ?_); omega)
          | (simp -dsimp -implicitDefEqProofs [*]))
        refine Next.intro (i + 1, a') ⟨by simp only; omega, ha', by simpa [*] using hb', ?_⟩ (by simp only; omega) (by simp [hl']) (by repeat' (first | exact StLe.refl _ | (refine StLe_cons (by simp [*]; done) ?_) | (refine StLe_fresh (by simp [*]; done) ?_)))
        simp only
        rw [filter_snoc _ _ _ ‹_›, hF, hl']
        simp_all
      · refine Next.intro (i + 1, a) ⟨by simp only; omega, ha, hb, ?_⟩ (by simp only; omega) (by simp) (by simp)
        simp only
        rw [filter_snoc _ _ _ ‹_›, hF]
        simp_all
      · rw [List.take_of_length_le ‹_›] at hF
        have h2 := ha.row
        have h3 := ha.le
        have h4 := ha.cap
        repeat' (first
          | (with_reducible refine Fresh.intro fun b hb => ?_) <;> (try simp -dsimp -implicitDefEqProofs [*] at hb)
          | (with_reducible refine Lit.imm ?_)
          | ((with_reducible refine Grow.intro ?_ fun b cap hb hc1 hc2 => ?_); omega) <;> (try simp -dsimp -implicitDefEqProofs [*] at hb)
          | (with_reducible refine RetView.nil2 ?_)
          | (with_reducible refine RetView.nil1 ?_)
          | (with_reducible refine RetView.loose2 (t := true) ?_)
          | (with_reducible refine RetView.loose1 (t := true) ?_)
          | (with_reducible refine RetView.fz 9 ?_ ?_)
          | (with_reducible refine RetView.same ?_)
          | (with_reducible refine DrawLate.intro [] ?_)
          | (with_reducible refine Cls_and ?_ ?_)
          | (with_reducible exact Cls.self _ _)
          | (with_reducible refine Cls_same ?_)
          | (with_reducible refine Cls_in ?_ ?_)
          | (with_reducible refine Cls_fresh ?_ ?_)
          | (with_reducible refine And.intro (fun h => ?_) (fun h => ?_)) <;> (try (exfalso; omega))
          | (with_reducible refine And.intro (fun h => ?_) ?_) <;> (try (exfalso; omega))
          | ((with_reducible refine and_keep ?_ fun hk => ?_); omega)
          | (simp -dsimp -implicitDefEqProofs [*]))
    · have h1 : ¬ (0 ≤ d ∧ d < 2097152 ∧ 0 ≤ t ∧ t < 2097152) := by simp [timeE, btw] at ht; omega
      have hres : PEnd.ret (.tuple [Event.lst false [], .int 1]) = PEnd.ret (.tuple [Event.lst false (standL l d t), .int (standN l d t)]) := by
        simp_all [standL, standN]
      repeat' (first
        | (with_reducible refine Fresh.intro fun b hb => ?_) <;> (try simp -dsimp -implicitDefEqProofs [*] at hb)
        | (with_reducible refine Rets.xcall (refCheck_spec _ _ _) ?_)
        | (with_reducible refine Rets.xsoft (refCheck_spec _ _ _) ?_)
        | (with_reducible refine xlateCall_of (fun _ => refCheck_spec _ _ _) ?_)
        | (with_reducible refine Lit.imm ?_)
        | ((with_reducible refine Grow.intro ?_ fun b cap hb hc1 hc2 => ?_); omega) <;> (try simp -dsimp -implicitDefEqProofs [*] at hb)
        | (with_reducible refine DrawLate.intro [] ?_)
        | (with_reducible refine Cls_and ?_ ?_)
        | (with_reducible exact Cls.self _ _)
        | (with_reducible refine Cls_same ?_)
        | (with_reducible refine Cls_in ?_ ?_)
        | (with_reducible refine Cls_fresh ?_ ?_)
        | (with_reducible refine And.intro (fun h => ?_) (fun h => ?_)) <;> (try (exfalso; omega))
        | (with_reducible refine And.intro (fun h => ?_) ?_) <;> (try (exfalso; omega))
        | ((with_reducible refine and_keep ?_ fun hk => ?_); omega)
        | (simp -dsimp -implicitDefEqProofs [*]))
      all_goals exact .nil2 (.same ⟨hres, rfl⟩)
  · repeat' (first
      | (with_reducible refine Fresh.intro fun b hb => ?_) <;> (try simp -dsimp -implicitDefEqProofs [*] at hb)
      | (with_reducible refine Rets.xcall (refCheck_spec _ _ _) ?_)
      | (with_reducible refine Rets.xsoft (refCheck_spec _ _ _) ?_)
      | (with_reducible refine xlateCall_of (fun _ => refCheck_spec _ _ _) ?_)
      | (with_reducible refine Lit.imm ?_)
      | ((with_reducible refine Grow.intro ?_ fun b cap hb hc1 hc2 => ?_); omega) <;> (try simp -dsimp -implicitDefEqProofs [*] at hb)
      | (with_reducible refine DrawLate.intro [] ?_)
      | (with_reducible refine Cls_and ?_ ?_)
      | (with_reducible exact Cls.self _ _)
      | (with_reducible refine Cls_same ?_)
      | (with_reducible refine Cls_in ?_ ?_)
      | (with_reducible refine Cls_fresh ?_ ?_)
      | (with_reducible refine And.intro (fun h => ?_) (fun h => ?_)) <;> (try (exfalso; omega))
      | (with_reducible refine And.intro (fun h => ?_) ?_) <;> (try (exfalso; omega))
      | ((with_reducible refine and_keep ?_ fun hk => ?_); omega)
      | (simp -dsimp -implicitDefEqProofs [*]))
    refine .nil2 (.same ⟨?_, rfl⟩)
    simp_all [standL, standN]
theorem ins_filter {l : List Event} (hok : ok l) (x : Event) : ins l (pos l x.no) x = (l.filter fun e => decide (e.no < x.no)) ++ x :: (l.filter fun e => !decide (e.no < x.no)) := by
  have key : ∀ (l : List Event), l.Pairwise (fun a b => a.no < b.no) → l.take (pos l x.no) = l.filter (fun e => decide (e.no < x.no)) ∧ l.drop (pos l x.no) = l.filter fun e => !decide (e.no < x.no) := by
    intro l
    induction l with
    | nil => intro _; exact ⟨rfl, rfl⟩
    | cons y l ih =>
      intro hp
      obtain ⟨hy, hp⟩ := List.pairwise_cons.1 hp
      have ih := ih hp
      by_cases hyx : y.no < x.no
      · have e : pos (y :: l) x.no = pos l x.no + 1 := by simp [pos, List.findIdx_cons, show ¬ x.no ≤ y.no by omega]
        rw [e]
        simp [hyx, ih]
      · have e : pos (y :: l) x.no = 0 := by simp [pos, List.findIdx_cons, show x.no ≤ y.no by omega]
        rw [e]
        have h2 : ∀ z ∈ l, ¬ z.no < x.no := fun z hz => by have := hy z hz; omega
        constructor
        · simp only [List.take_zero]
          symm
          rw [List.filter_eq_nil_iff]
          intro z hz
          rcases List.mem_cons.1 hz with rfl | hz
          · simpa using hyx
          · simpa using h2 z hz
        · simp only [List.drop_zero]
          symm
          rw [List.filter_eq_self]
          intro z hz
          rcases List.mem_cons.1 hz with rfl | hz
          · simpa using hyx
          · simpa using h2 z hz
  obtain ⟨h1, h2⟩ := key l hok.2
  rw [ins, h1, h2]
theorem refAdd_spec (t : Bool) (l : List Event) (x : Event) (st : Store) : Rets P F.podiumref49_Add [Event.lst t l, x.pv] st (.tuple [Event.lst false (addL l x), .int (addN l x)]) := by
  refine H.podiumref49_Add.view hmix rfl rfl ?_
  by_cases hc : checkE l = 0
  · obtain ⟨hl, hok⟩ := checkE_zero.1 hc
    by_cases hr : rightE x = true
    · repeat' (first
        | (with_reducible refine Fresh.intro fun b hb => ?_) <;> (try simp -dsimp -implicitDefEqProofs [*] at hb)
        | (with_reducible refine Rets.xcall (refCheck_spec _ _ _) ?_)
        | (with_reducible refine Rets.xsoft (refCheck_spec _ _ _) ?_)
        | (with_reducible refine xlateCall_of (fun _ => refCheck_spec _ _ _) ?_)
        | (with_reducible refine Rets.xcall (refRight_spec _ _) ?_)
        | (with_reducible refine Rets.xsoft (refRight_spec _ _) ?_)
        | (with_reducible refine xlateCall_of (fun _ => refRight_spec _ _) ?_)
        | (with_reducible refine Lit.own (cs := []) (len := 0) fun b hb => ?_) <;> (try simp -dsimp -implicitDefEqProofs [*] at hb)
        | (with_reducible refine Lit.imm ?_)
        | ((with_reducible refine Grow.intro ?_ fun b cap hb hc1 hc2 => ?_); omega) <;> (try simp -dsimp -implicitDefEqProofs [*] at hb)
        | (with_reducible refine DrawLate.intro [] ?_)
        | (with_reducible refine Cls_and ?_ ?_)
        | (with_reducible exact Cls.self _ _)
        | (with_reducible refine Cls_same ?_)
        | (with_reducible refine Cls_in ?_ ?_)
        | (with_reducible refine Cls_fresh ?_ ?_)
        | (with_reducible refine And.intro (fun h => ?_) (fun h => ?_)) <;> (try (exfalso; omega))
        | (with_reducible refine And.intro (fun h => ?_) ?_) <;> (try (exfalso; omega))
        | ((with_reducible refine and_keep ?_ fun hk => ?_); omega)
        | (simp -dsimp -implicitDefEqProofs [*]))
      rename_i b0 hb0 b1 hb1
      refine xloop_for (fun y : Nat × Acc Event × Acc Event => [(0, Event.lst t l), (3, .ptr b0 0), (4, .nil), (5, .int 0), (7, .own y.2.1.b 0 y.2.1.l.length y.2.1.cap), (8, .own y.2.2.b 0 y.2.2.l.length y.2.2.cap), (9, .int (y.1 : Nat))])
        (fun y => (y.2.2.b, .arr T.apiEvent y.2.2.R) :: (y.2.1.b, .arr T.apiEvent y.2.1.R) :: (b0, .arr T.apiEvent x.enc) :: st)
        (fun y => y.1 ≤ l.length ∧ y.2.1.Ok Event.row 9 ∧ y.2.2.Ok Event.row 9 ∧ snew ((y.2.1.b, .arr 0 []) :: (b0, .arr 0 []) :: st) y.2.2.b ∧ snew ((b0, .arr 0 []) :: st) y.2.1.b ∧
          ((l.take y.1).filter fun e => decide (e.no < x.no)) = y.2.1.l ∧ ((l.take y.1).filter fun e => !decide (e.no < x.no)) = y.2.2.l ∧ has (l.take y.1) x.no = false) (fun y => l.length - y.1) (0, ⟨[], b1, 0, []⟩, ⟨[], b, 0, []⟩) ?_ ?_ ?_ ?_
      · exact ⟨Nat.zero_le _, .nil rfl _, .nil rfl _, by simp [*], by simp [*], rfl, rfl, rfl⟩
      · simp
      · simp
      rintro ⟨i, a1, a2⟩ ⟨hi, ha1, ha2, hs2, hs1, hF1, hF2, hno⟩
      simp only [snew_cons] at hi ha1 ha2 hs2 hs1 hF1 hF2 hno
      have hw := wrap_succ (n := i) (by omega)
      have hfl1 := filter_take_le (fun e => decide (e.no < x.no)) l i
      have hfl2 := filter_take_le (fun e => !decide (e.no < x.no)) l i
      rw [hF1] at hfl1
      rw [hF2] at hfl2
      have hhas : i < l.length → has (l.take (i + 1)) x.no = (has (l.take i) x.no || (if h : i < l.length then l[i].no == x.no else false)) := fun h => by
        rw [has, List.take_succ_eq_append_getElem h, List.any_append]
        simp [has, h]
      repeat' (first
        | (with_reducible refine Fresh.intro fun b hb => ?_) <;> (try simp -dsimp -implicitDefEqProofs [*] at hb)
        | (with_reducible refine Lit.imm ?_)
        | ((with_reducible refine Grow.intro ?_ fun b cap hb hc1 hc2 => ?_); omega) <;> (try simp -dsimp -implicitDefEqProofs [*] at hb)
        | (with_reducible refine DrawLate.intro [] ?_)
        | (with_reducible refine Cls_and ?_ ?_)
        | (with_reducible exact Cls.self _ _)
        | (with_reducible refine Cls_same ?_)
        | (with_reducible refine Cls_in ?_ ?_)
        | (with_reducible refine Cls_fresh ?_ ?_)
        | (with_reducible refine And.intro (fun h => ?_) (fun h => ?_)) <;> (try (exfalso; omega))
        | (with_reducible refine And.intro (fun h => ?_) ?_) <;> (try (exfalso; omega))
        | ((with_reducible refine and_keep ?_ fun hk => ?_); omega)
        | (simp -dsimp -implicitDefEqProofs [*]))
      · have hh : has l x.no = true := by
          simp only [has, List.any_eq_true, beq_iff_eq]
          exact ⟨_, List.getElem_mem ‹i < l.length›, ‹_›⟩
        have hN : addN l x = 141 := by simp [addN, hc, hr, hh]
        have hL : addL l x = [] := by simp [addL, hN]
        repeat' (first
          | (with_reducible refine Fresh.intro fun b hb => ?_) <;> (try simp -dsimp -implicitDefEqProofs [*] at hb)
          | (with_reducible refine Lit.imm ?_)
          | ((with_reducible refine Grow.intro ?_ fun b cap hb hc1 hc2 => ?_); omega) <;> (try simp -dsimp -implicitDefEqProofs [*] at hb)
          | (with_reducible refine RetView.nil2 ?_)
          | (with_reducible refine RetView.nil1 ?_)
          | (with_reducible refine RetView.loose2 (t := true) ?_)
          | (with_reducible refine RetView.loose1 (t := true) ?_)
          | (with_reducible refine RetView.fz 9 ?_ ?_)
          | (with_reducible refine RetView.same ?_)
          | (with_reducible refine DrawLate.intro [] ?_)
          | (with_reducible refine Cls_and ?_ ?_)
          | (with_reducible exact Cls.self _ _)
          | (with_reducible refine Cls_same ?_)
          | (with_reducible refine Cls_in ?_ ?_)
          | (with_reducible refine Cls_fresh ?_ ?_)
          | (with_reducible refine And.intro (fun h => ?_) (fun h => ?_)) <;> (try (exfalso; omega))
          | (with_reducible refine And.intro (fun h => ?_) ?_) <;> (try (exfalso; omega))
          | ((with_reducible refine and_keep ?_ fun hk => ?_); omega)
          | (simp -dsimp -implicitDefEqProofs [*]))
      · refine xappend_acc Event.row_len Event.row_append ha1 (by simp [*]) [l[i]] (by simp) (by simp) (by omega) fun a' ha' hl' hb' => ?_
        simp -dsimp -implicitDefEqProofs [*] at hb'
        repeat' (first
          | (with_reducible refine Fresh.intro fun b hb => ?_) <;> (try simp -dsimp -implicitDefEqProofs [*] at hb)
          | (with_reducible refine Lit.imm ?_)
          | ((with_reducible refine Grow.intro ?_ fun b cap hb hc1 hc2 => ?_); omega) <;> (try simp -dsimp -implicitDefEqProofs [*] at hb)
          | (with_reducible refine DrawLate.intro [] ?_)
          | (with_reducible refine Cls_and ?_ ?_)
          | (with_reducible exact Cls.self _ _)
          | (with_reducible refine Cls_same ?_)
          | (with_reducible refine Cls_in ?_ ?_)
          | (with_reducible refine Cls_fresh ?_ ?_)
          | (with_reducible refine And.intro (fun h => ?_) (fun h => ?_)) <;> (try (exfalso; omega))
          | (with_reducible refine And.intro (fun h => ?_) ?_) <;> (try (exfalso; omega))
          | ((with_reducible refine and_keep ?_ fun hk => ?_); omega)
          | (simp -dsimp -implicitDefEqProofs [*]))
        refine Next.intro (i + 1, a', a2) ⟨by simp only; omega, ha', ha2, by simp [*], by simp [*], ?_, ?_, ?_⟩ (by simp only; omega) (by simp [hl']) (by repeat' (first | exact StLe.refl _ | (refine StLe_cons (by simp [*]; done) ?_) | (refine StLe_fresh (by simp [*]; done) ?_)))
        · simp only
          rw [filter_snoc _ _ _ ‹_›, hF1, hl']
          simp_all
        · simp only
          rw [filter_snoc _ _ _ ‹_›, hF2]
          simp_all
        · rw [hhas ‹_›, hno]
          simp_all
      · refine xappend_acc Event.row_len Event.row_append ha2 (by simp [*]) [l[i]] (by simp) (by simp) (by omega) fun a' ha' hl' hb' => ?_
        simp -dsimp -implicitDefEqProofs [*] at hb'
        repeat' (first
          | (with_reducible refine Fresh.intro fun b hb => ?_) <;> (try simp -dsimp -implicitDefEqProofs [*] at hb)
          | (with_reducible refine Lit.imm ?_)
          | ((with_reducible refine Grow.intro ?_ fun b cap hb hc1 hc2 => ?_); omega) <;> (try simp -dsimp -implicitDefEqProofs [*] at hb)
          | (with_reducible refine DrawLate.intro [] ?_)
          | (with_reducible refine Cls_and ?_ ?_)
          | (with_reducible exact Cls.self _ _)
          | (with_reducible refine Cls_same ?_)
          | (with_reducible refine Cls_in ?_ ?_)
          | (with_reducible refine Cls_fresh ?_ ?_)
          | (with_reducible refine And.intro (fun h => ?_) (fun h => ?_)) <;> (try (exfalso; omega))
          | (with_reducible refine And.intro (fun h => ?_) ?_) <;> (try (exfalso; omega))
          | ((with_reducible refine and_keep ?_ fun hk => ?_); omega)
          | (simp -dsimp -implicitDefEqProofs [*]))
        refine Next.intro (i + 1, a1, a') ⟨by simp only; omega, ha1, ha', by simp [*], by simp [*], ?_, ?_, ?_⟩ (by simp only; omega) (by simp [hl']) (by repeat' (first | exact StLe.refl _ | (refine StLe_cons (by simp [*]; done) ?_) | (refine StLe_fresh (by simp [*]; done) ?_)))
        · simp only
          rw [filter_snoc _ _ _ ‹_›, hF1]
          simp_all
        · simp only
          rw [filter_snoc _ _ _ ‹_›, hF2, hl']
          simp_all
        · rw [hhas ‹_›, hno]
          simp_all
      · rw [List.take_of_length_le ‹_›] at hno
        have h4 : l.length = 4096 := by omega
        have hN : addN l x = 2 := by simp [addN, hc, hr, hno, h4]
        have hL : addL l x = [] := by simp [addL, hN]
        repeat' (first
          | (with_reducible refine Fresh.intro fun b hb => ?_) <;> (try simp -dsimp -implicitDefEqProofs [*] at hb)
          | (with_reducible refine Lit.imm ?_)
          | ((with_reducible refine Grow.intro ?_ fun b cap hb hc1 hc2 => ?_); omega) <;> (try simp -dsimp -implicitDefEqProofs [*] at hb)
          | (with_reducible refine RetView.nil2 ?_)
          | (with_reducible refine RetView.nil1 ?_)
          | (with_reducible refine RetView.loose2 (t := true) ?_)
          | (with_reducible refine RetView.loose1 (t := true) ?_)
          | (with_reducible refine RetView.fz 9 ?_ ?_)
          | (with_reducible refine RetView.same ?_)
          | (with_reducible refine DrawLate.intro [] ?_)
          | (with_reducible refine Cls_and ?_ ?_)
          | (with_reducible exact Cls.self _ _)
          | (with_reducible refine Cls_same ?_)
          | (with_reducible refine Cls_in ?_ ?_)
          | (with_reducible refine Cls_fresh ?_ ?_)
          | (with_reducible refine And.intro (fun h => ?_) (fun h => ?_)) <;> (try (exfalso; omega))
          | (with_reducible refine And.intro (fun h => ?_) ?_) <;> (try (exfalso; omega))
          | ((with_reducible refine and_keep ?_ fun hk => ?_); omega)
          | (simp -dsimp -implicitDefEqProofs [*]))
      · rw [List.take_of_length_le ‹_›] at hno hF1 hF2
        have h4 : ¬ l.length = 4096 := by omega
        have hN : addN l x = 0 := by simp [addN, hc, hr, hno, h4]
        have hL : addL l x = a1.l ++ x :: a2.l := by simp [addL, hN, ins_filter hok, hF1, hF2]
        have h5 := ha2.len
        have h6 := ha2.le
        have h7 := ha2.row
        have hq : a2.l.length * 9 ≤ a2.cap * 9 := by omega
        refine xappend_acc Event.row_len Event.row_append ha1 (by simp [*]) [x] (by simp) (by simp) (by omega) fun a' ha' hl' hb' => ?_
        have hll : a'.l.length = a1.l.length + 1 := by simp [hl']
        simp -dsimp -implicitDefEqProofs [*] at hb'
        have hl2 := hl'.symm
        clear hl' hll
        repeat' (first
          | (with_reducible refine Fresh.intro fun b hb => ?_) <;> (try simp -dsimp -implicitDefEqProofs [*] at hb)
          | (with_reducible refine Lit.imm ?_)
          | ((with_reducible refine Grow.intro ?_ fun b cap hb hc1 hc2 => ?_); omega) <;> (try simp -dsimp -implicitDefEqProofs [*] at hb)
          | (with_reducible refine DrawLate.intro [] ?_)
          | (with_reducible refine Cls_and ?_ ?_)
          | (with_reducible exact Cls.self _ _)
          | (with_reducible refine Cls_same ?_)
          | (with_reducible refine Cls_in ?_ ?_)
          | (with_reducible refine Cls_fresh ?_ ?_)
          | (with_reducible refine And.intro (fun h => ?_) (fun h => ?_)) <;> (try (exfalso; omega))
          | (with_reducible refine And.intro (fun h => ?_) ?_) <;> (try (exfalso; omega))
          | ((with_reducible refine and_keep ?_ fun hk => ?_); omega)
          | (simp -dsimp -implicitDefEqProofs [*]))
        refine xappend_acc Event.row_len Event.row_append ha' (by simp [*]) a2.l rfl rfl (by rw [← hl2]; simp; omega) fun a'' ha'' hl' hb'' => ?_
        have hl3 : a''.l = addL l x := by rw [hl', ← hl2, hL]; simp
        simp -dsimp -implicitDefEqProofs [*] at hb''
        have h8 := ha''.row
        have h9 := ha''.le
        have h10 := ha''.cap
        rw [hl3] at h8 h9
        clear hl' hl2 hL
        repeat' (first
          | (with_reducible refine Fresh.intro fun b hb => ?_) <;> (try simp -dsimp -implicitDefEqProofs [*] at hb)
          | (with_reducible refine Lit.imm ?_)
          | ((with_reducible refine Grow.intro ?_ fun b cap hb hc1 hc2 => ?_); omega) <;> (try simp -dsimp -implicitDefEqProofs [*] at hb)
          | (with_reducible refine RetView.nil2 ?_)
          | (with_reducible refine RetView.nil1 ?_)
          | (with_reducible refine RetView.loose2 (t := true) ?_)
          | (with_reducible refine RetView.loose1 (t := true) ?_)
          | (with_reducible refine RetView.fz 9 ?_ ?_)
          | (with_reducible refine RetView.same ?_)
          | (with_reducible refine DrawLate.intro [] ?_)
          | (with_reducible refine Cls_and ?_ ?_)
          | (with_reducible exact Cls.self _ _)
          | (with_reducible refine Cls_same ?_)
          | (with_reducible refine Cls_in ?_ ?_)
          | (with_reducible refine Cls_fresh ?_ ?_)
          | (with_reducible refine And.intro (fun h => ?_) (fun h => ?_)) <;> (try (exfalso; omega))
          | (with_reducible refine And.intro (fun h => ?_) ?_) <;> (try (exfalso; omega))
          | ((with_reducible refine and_keep ?_ fun hk => ?_); omega)
          | (simp -dsimp -implicitDefEqProofs [*]))
    · have hN : addN l x = 490 := by simp_all [addN]
      have hL : addL l x = [] := by simp [addL, hN]
      repeat' (first
        | (with_reducible refine Fresh.intro fun b hb => ?_) <;> (try simp -dsimp -implicitDefEqProofs [*] at hb)
        | (with_reducible refine Rets.xcall (refCheck_spec _ _ _) ?_)
        | (with_reducible refine Rets.xsoft (refCheck_spec _ _ _) ?_)
        | (with_reducible refine xlateCall_of (fun _ => refCheck_spec _ _ _) ?_)
        | (with_reducible refine Rets.xcall (refRight_spec _ _) ?_)
        | (with_reducible refine Rets.xsoft (refRight_spec _ _) ?_)
        | (with_reducible refine xlateCall_of (fun _ => refRight_spec _ _) ?_)
        | (with_reducible refine Lit.imm ?_)
        | ((with_reducible refine Grow.intro ?_ fun b cap hb hc1 hc2 => ?_); omega) <;> (try simp -dsimp -implicitDefEqProofs [*] at hb)
        | (with_reducible refine DrawLate.intro [] ?_)
        | (with_reducible refine Cls_and ?_ ?_)
        | (with_reducible exact Cls.self _ _)
        | (with_reducible refine Cls_same ?_)
        | (with_reducible refine Cls_in ?_ ?_)
        | (with_reducible refine Cls_fresh ?_ ?_)
        | (with_reducible refine And.intro (fun h => ?_) (fun h => ?_)) <;> (try (exfalso; omega))
        | (with_reducible refine And.intro (fun h => ?_) ?_) <;> (try (exfalso; omega))
        | ((with_reducible refine and_keep ?_ fun hk => ?_); omega)
        | (simp -dsimp -implicitDefEqProofs [*]))
      refine .fresh1 ‹_› (.nil2 (.same ⟨?_, rfl⟩))
      simp [hL, hN]
  · have hN : addN l x = checkE l := by simp_all [addN]
    have hL : addL l x = [] := by simp [addL, hN, hc]
    repeat' (first
      | (with_reducible refine Fresh.intro fun b hb => ?_) <;> (try simp -dsimp -implicitDefEqProofs [*] at hb)
      | (with_reducible refine Rets.xcall (refCheck_spec _ _ _) ?_)
      | (with_reducible refine Rets.xsoft (refCheck_spec _ _ _) ?_)
      | (with_reducible refine xlateCall_of (fun _ => refCheck_spec _ _ _) ?_)
      | (with_reducible refine Lit.imm ?_)
      | ((with_reducible refine Grow.intro ?_ fun b cap hb hc1 hc2 => ?_); omega) <;> (try simp -dsimp -implicitDefEqProofs [*] at hb)
      | (with_reducible refine DrawLate.intro [] ?_)
      | (with_reducible refine Cls_and ?_ ?_)
      | (with_reducible exact Cls.self _ _)
      | (with_reducible refine Cls_same ?_)
      | (with_reducible refine Cls_in ?_ ?_)
      | (with_reducible refine Cls_fresh ?_ ?_)
      | (with_reducible refine And.intro (fun h => ?_) (fun h => ?_)) <;> (try (exfalso; omega))
      | (with_reducible refine And.intro (fun h => ?_) ?_) <;> (try (exfalso; omega))
      | ((with_reducible refine and_keep ?_ fun hk => ?_); omega)
      | (simp -dsimp -implicitDefEqProofs [*]))
    refine .fresh1 ‹_› (.nil2 (.same ⟨?_, rfl⟩))
    simp [hL, hN]
end Go.Proofs.Ytahdhdgglbcagaa
