/- RecordLater: the walk. -/
import Derived.Test.YtahdhdgglbcagaaS49J
import Derived.Test.YtahdhdgglbcagaaLVf
namespace Go.Proofs.Ytahdhdgglbcagaa
open Go.Pv
set_option maxRecDepth 100000
set_option maxHeartbeats 4000000
def laterE (l : List Event) (d t : Int) (tt : Bool) : Nat × Option (Option (Acc Event)) → Env := fun y =>
  [(0, Event.lst tt l), (1, .int d), (2, .int t), (7, Event.lst false (standL l d t)), (32, Event.lst tt l), (33, .int l.length), (34, .int (y.1 : Nat)),
    (9, match y.2 with | none => Event.lst false (l.filter fun x => counts x d t) | some none => .nil | some (some a) => .own a.b 0 a.l.length a.cap)]
theorem ok_filter {l : List Event} (h : ok l) (p : Event → Bool) : ok (l.filter p) := ⟨fun e he => h.1 e ((List.mem_filter.1 he).1), h.2.sublist List.filter_sublist⟩
theorem checkE_filter {l : List Event} (h : checkE l = 0) (p : Event → Bool) : checkE (l.filter p) = 0 := by
  obtain ⟨h1, h2⟩ := checkE_zero.1 h
  have := List.length_filter_le p l
  exact checkE_zero.2 ⟨by omega, ok_filter h2 p⟩
theorem standN_zero {l : List Event} {d t : Int} : standN l d t = 0 ↔ checkE l = 0 ∧ timeE d t = true := by
  unfold standN
  split
  · simp [*]
  · split <;> simp_all
theorem right_end {e : Event} (h : rightE e = true) : counts e 2097151 2097151 = true := by
  simp only [rightE, btw, Bool.and_eq_true, decide_eq_true_eq] at h
  simp only [counts, Bool.and_eq_true, decide_eq_true_eq]
  omega
theorem later_facts {l : List Event} {d t : Int} (hn : standN l d t = 0) :
    standN (l.filter fun x => counts x d t) d t = 0 ∧ standL (l.filter fun x => counts x d t) d t = standL l d t ∧
    standN (standL l d t) d t = 0 ∧ standL (standL l d t) d t = standL l d t ∧
    standN (l.filter fun x => counts x d t) 2097151 2097151 = 0 ∧ standL (l.filter fun x => counts x d t) 2097151 2097151 = standL l d t := by
  obtain ⟨hc, ht⟩ := standN_zero.1 hn
  have hok := (checkE_zero.1 hc).2
  have hL : standL l d t = l.filter fun x => stands l x d t := by simp [standL, hn]
  have n1 := standN_zero.2 ⟨checkE_filter hc fun x => counts x d t, ht⟩
  have n2 := standN_zero.2 ⟨checkE_filter hc fun x => stands l x d t, ht⟩
  have n3 := standN_zero.2 ⟨checkE_filter hc fun x => counts x d t, (by decide : timeE 2097151 2097151 = true)⟩
  have e1 : (l.filter fun x => counts x d t).filter (fun x => stands (l.filter fun x => counts x d t) x d t) = l.filter fun x => stands l x d t := by
    rw [List.filter_filter]
    refine List.filter_congr fun x _ => ?_
    simp only [stands, List.all_filter]
    cases counts x d t
    · simp
    · simp only [Bool.true_and, Bool.and_true]
      congr 1
      funext y
      cases counts y d t <;> simp
  rw [hL]
  refine ⟨n1, ?_, n2, ?_, n3, ?_⟩
  · rw [standL, if_pos n1, e1]
  · rw [standL, if_pos n2, List.filter_eq_self]
    intro x hx
    have hx2 := (List.mem_filter.1 hx).2
    simp only [stands, Bool.and_eq_true, List.all_eq_true] at hx2 ⊢
    exact ⟨hx2.1, fun y hy => hx2.2 y ((List.mem_filter.1 hy).1)⟩
  · rw [standL, if_pos n3, ← e1]
    refine List.filter_congr fun x hx => ?_
    have c1 : ∀ y ∈ l.filter (fun x => counts x d t), counts y d t = true ∧ counts y 2097151 2097151 = true := fun y hy =>
      ⟨(List.mem_filter.1 hy).2, right_end (hok.1 y ((List.mem_filter.1 hy).1))⟩
    simp only [stands, (c1 x hx).1, (c1 x hx).2, Bool.true_and]
    rw [Bool.eq_iff_iff, List.all_eq_true, List.all_eq_true]
    exact forall_congr' fun y => forall_congr' fun hy => by rw [(c1 y hy).1, (c1 y hy).2]
theorem later_law (tt : Bool) (l : List Event) (d t : Int) (st : Store) : Rets P F.podiumlaw49_RecordLater [Event.lst tt l, .int d, .int t] st (.bool true) := by
  refine (H.podiumlaw49_RecordLater).pure hmix rfl rfl ?_
  by_cases hl : (60 : Int) < (l.length : Int)
  · repeat' (first
      | (with_reducible refine Fresh.intro fun b hb => ?_) <;> (try simp -dsimp -implicitDefEqProofs [*] at hb)
      | (with_reducible refine Rets.xcall (sane_spec _) ?_)
      | (with_reducible refine Rets.xsoft (sane_spec _) ?_)
      | (with_reducible refine xlateCall_of (fun _ => sane_spec _) ?_)
      | (with_reducible refine Lit.imm ?_)
      | ((with_reducible refine Grow.intro ?_ fun b cap hb hc1 hc2 => ?_); omega) <;> (try simp -dsimp -implicitDefEqProofs [*] at hb)
      | (with_reducible refine DrawLate.intro [] ?_)
      | (with_reducible refine Cls_and ?_ ?_)
      | (with_reducible exact Cls.self _ _)
      | (with_reducible refine Cls_same ?_)
      | (with_reducible refine Cls_in ?_ ?_)
      | (with_reducible refine Cls_fresh ?_ ?_)
      | (with_reducible refine And.intro (fun h => ?_) (fun h => ?_)) <;> (try (exfalso; omega))
      | (with_reducible refine And.intro (fun h => ?_) ?_) <;> (try (exfalso; omega))
      | ((with_reducible refine and_keep ?_ fun hk => ?_); omega)
      | (simp -dsimp -implicitDefEqProofs [*]))
  have hl9 : l.length ≤ 60 := by omega
  by_cases hn : standN l d t = 0
  · have h2 := standL_len l d t
    have F : ∀ i (h : i < l.length), (l.take (i + 1)).filter (fun x => counts x d t) = (l.take i).filter (fun x => counts x d t) ++ if counts l[i] d t then [l[i]] else [] := fun i h => filter_snoc _ _ _ h
    repeat' (first
      | (with_reducible refine Fresh.intro fun b hb => ?_) <;> (try simp -dsimp -implicitDefEqProofs [*] at hb)
      | (with_reducible refine Rets.xcall (sane_spec _) ?_)
      | (with_reducible refine Rets.xsoft (sane_spec _) ?_)
      | (with_reducible refine xlateCall_of (fun _ => sane_spec _) ?_)
      | (with_reducible refine Rets.xcall (standing_spec ..) ?_)
      | (with_reducible refine Rets.xsoft (standing_spec ..) ?_)
      | (with_reducible refine xlateCall_of (fun _ => standing_spec ..) ?_)
      | (with_reducible refine Lit.imm ?_)
      | ((with_reducible refine Grow.intro ?_ fun b cap hb hc1 hc2 => ?_); omega) <;> (try simp -dsimp -implicitDefEqProofs [*] at hb)
      | (with_reducible refine DrawLate.intro [] ?_)
      | (with_reducible refine Cls_and ?_ ?_)
      | (with_reducible exact Cls.self _ _)
      | (with_reducible refine Cls_same ?_)
      | (with_reducible refine Cls_in ?_ ?_)
      | (with_reducible refine Cls_fresh ?_ ?_)
      | (with_reducible refine And.intro (fun h => ?_) (fun h => ?_)) <;> (try (exfalso; omega))
      | (with_reducible refine And.intro (fun h => ?_) ?_) <;> (try (exfalso; omega))
      | ((with_reducible refine and_keep ?_ fun hk => ?_); omega)
      | (simp -dsimp -implicitDefEqProofs [*]))
    refine xloop_view (laterE l d t tt) (fun y => match y.2 with | some (some a) => (a.b, .arr T.apiEvent a.R) :: st | _ => st)
      (fun y => y.1 ≤ l.length ∧ match y.2 with | none => y.1 = l.length | some none => y.1 < l.length ∧ (l.take y.1).filter (fun x => counts x d t) = [] | some (some a) => y.1 < l.length ∧ a.Ok Event.row 9 ∧ snew st a.b ∧ (l.take y.1).filter (fun x => counts x d t) = a.l)
      (fun y => l.length - y.1) (if l = [] then (0, none) else (0, some none)) ?_ ?_ ?_
    · split
      · rename_i h; subst h; simp
      · rename_i h
        have := List.length_pos_iff.2 h
        simp; omega
    · split
      · rename_i h; subst h
        refine View.ple (.refl _) ?_
        simp [laterE, PLe.refl]
        exact PLe.nil1
      · exact View.weak (by simp [laterE]) (.refl _)
    obtain ⟨fS, fS', fX, fX', fE, fE'⟩ := later_facts hn
    generalize hX : standL l d t = X at *
    have lX : X.length ≤ 100000 := by omega
    rintro ⟨i, y⟩ ⟨hi, hy⟩
    simp only at hi hy
    have hw := wrap_succ (n := i) (by omega)
    rcases y with _ | _ | a
    · simp only at hy
      subst hy
      generalize hS : l.filter (fun x => counts x d t) = S at *
      simp only [laterE, hS, hX]
      clear F hX
      repeat' (first
        | (with_reducible refine Fresh.intro fun b hb => ?_) <;> (try simp -dsimp -implicitDefEqProofs [*] at hb)
        | (with_reducible refine Rets.xcall (standing_spec ..) ?_)
        | (with_reducible refine Rets.xsoft (standing_spec ..) ?_)
        | (with_reducible refine xlateCall_of (fun _ => standing_spec ..) ?_)
        | (with_reducible refine Rets.xcall (same_l _ _ X X lX rfl _) ?_)
        | (with_reducible refine Rets.xsoft (same_l _ _ X X lX rfl _) ?_)
        | (with_reducible refine xlateCall_of (fun _ => same_l _ _ X X lX rfl _) ?_)
        | (with_reducible refine Lit.imm ?_)
        | ((with_reducible refine Grow.intro ?_ fun b cap hb hc1 hc2 => ?_); omega) <;> (try simp -dsimp -implicitDefEqProofs [*] at hb)
        | (with_reducible refine DrawLate.intro [] ?_)
        | (with_reducible refine Cls_and ?_ ?_)
        | (with_reducible exact Cls.self _ _)
        | (with_reducible refine Cls_same ?_)
        | (with_reducible refine Cls_in ?_ ?_)
        | (with_reducible refine Cls_fresh ?_ ?_)
        | (with_reducible refine And.intro (fun h => ?_) (fun h => ?_)) <;> (try (exfalso; omega))
        | (with_reducible refine And.intro (fun h => ?_) ?_) <;> (try (exfalso; omega))
        | ((with_reducible refine and_keep ?_ fun hk => ?_); omega)
        | (simp -dsimp -implicitDefEqProofs [*]))
    · obtain ⟨hi2, hF⟩ := hy
      simp only [laterE]
      have hFi := F i hi2
      rw [hF] at hFi
      clear F hF
      repeat' (first
        | (with_reducible refine Fresh.intro fun b hb => ?_) <;> (try simp -dsimp -implicitDefEqProofs [*] at hb)
        | (with_reducible refine Rets.xcall (counts_spec ..) ?_)
        | (with_reducible refine Rets.xsoft (counts_spec ..) ?_)
        | (with_reducible refine xlateCall_of (fun _ => counts_spec ..) ?_)
        | (with_reducible refine Lit.imm ?_)
        | ((with_reducible refine Grow.intro ?_ fun b cap hb hc1 hc2 => ?_); omega) <;> (try simp -dsimp -implicitDefEqProofs [*] at hb)
        | (with_reducible refine DrawLate.intro [] ?_)
        | (with_reducible refine Cls_and ?_ ?_)
        | (with_reducible exact Cls.self _ _)
        | (with_reducible refine Cls_same ?_)
        | (with_reducible refine Cls_in ?_ ?_)
        | (with_reducible refine Cls_fresh ?_ ?_)
        | (with_reducible refine And.intro (fun h => ?_) (fun h => ?_)) <;> (try (exfalso; omega))
        | (with_reducible refine And.intro (fun h => ?_) ?_) <;> (try (exfalso; omega))
        | ((with_reducible refine and_keep ?_ fun hk => ?_); omega)
        | (simp -dsimp -implicitDefEqProofs [*]))
      · refine xappend_acc0 Event.row_len [l[i]] (by simp) (by simp) (by omega) (by omega) fun a' ha' hl' hb' => ?_
        simp -dsimp -implicitDefEqProofs [*] at hb'
        have hl2 : a'.l = [l[i]] := hl'
        have hF2 : (l.take (i + 1)).filter (fun x => counts x d t) = a'.l := by rw [hFi, hl2]; simp [*]
        clear hl' hFi
        repeat' (first
          | (with_reducible refine Fresh.intro fun b hb => ?_) <;> (try simp -dsimp -implicitDefEqProofs [*] at hb)
          | (with_reducible refine Lit.imm ?_)
          | ((with_reducible refine Grow.intro ?_ fun b cap hb hc1 hc2 => ?_); omega) <;> (try simp -dsimp -implicitDefEqProofs [*] at hb)
          | (with_reducible refine DrawLate.intro [] ?_)
          | (with_reducible refine Cls_and ?_ ?_)
          | (with_reducible exact Cls.self _ _)
          | (with_reducible refine Cls_same ?_)
          | (with_reducible refine Cls_in ?_ ?_)
          | (with_reducible refine Cls_fresh ?_ ?_)
          | (with_reducible refine And.intro (fun h => ?_) (fun h => ?_)) <;> (try (exfalso; omega))
          | (with_reducible refine And.intro (fun h => ?_) ?_) <;> (try (exfalso; omega))
          | ((with_reducible refine and_keep ?_ fun hk => ?_); omega)
          | (simp -dsimp -implicitDefEqProofs [*]))
        by_cases he : i + 1 = l.length
        · rw [he, List.take_of_length_le (Nat.le_refl _)] at hF2
          refine Next.view (i + 1, none) ⟨by simp only; omega, he⟩ (by simp only; omega) (View.frz (b := a'.b) (o := .arr T.apiEvent a'.R) (by simp [*]) (by repeat' (first | exact StLe.refl _ | (refine StLe_cons (by simp [*]; done) ?_) | (refine StLe_fresh (by simp [*]; done) ?_))) ?_)
          simp [laterE, hF2, hX, Frz.refl]
          have := Frz.acc (T := T.apiEvent) ha'
          rw [show 1 = a'.l.length by simp [hl2]]
          exact this
        · exact Next.intro (i + 1, some (some a')) ⟨by simp only; omega, by simp only; exact ⟨by omega, ha', by simp [*], hF2⟩⟩ (by simp only; omega) (by simp [laterE, hX, hl2]) (by repeat' (first | exact StLe.refl _ | (refine StLe_cons (by simp [*]; done) ?_) | (refine StLe_fresh (by simp [*]; done) ?_)))
      · have hF2 : (l.take (i + 1)).filter (fun x => counts x d t) = [] := by rw [hFi]; simp [*]
        clear hFi
        by_cases he : i + 1 = l.length
        · rw [he, List.take_of_length_le (Nat.le_refl _)] at hF2
          refine Next.view (i + 1, none) ⟨by simp only; omega, he⟩ (by simp only; omega) (View.ple (by repeat' (first | exact StLe.refl _ | (refine StLe_cons (by simp [*]; done) ?_) | (refine StLe_fresh (by simp [*]; done) ?_))) ?_)
          simp [laterE, hF2, hX, PLe.refl]
          exact PLe.nil1
        · exact Next.intro (i + 1, some none) ⟨by simp only; omega, by simp only; exact ⟨by omega, hF2⟩⟩ (by simp only; omega) (by simp [laterE, hX]) (by repeat' (first | exact StLe.refl _ | (refine StLe_cons (by simp [*]; done) ?_) | (refine StLe_fresh (by simp [*]; done) ?_)))
    · obtain ⟨hi2, ha, hb, hF⟩ := hy
      simp only [laterE]
      have hFi := F i hi2
      have hal : a.l.length ≤ l.length := by rw [← hF]; exact Nat.le_trans (List.length_filter_le _ _) (by simp only [List.length_take]; omega)
      rw [hF] at hFi
      clear F hF
      repeat' (first
        | (with_reducible refine Fresh.intro fun b hb => ?_) <;> (try simp -dsimp -implicitDefEqProofs [*] at hb)
        | (with_reducible refine Rets.xcall (counts_spec ..) ?_)
        | (with_reducible refine Rets.xsoft (counts_spec ..) ?_)
        | (with_reducible refine xlateCall_of (fun _ => counts_spec ..) ?_)
        | (with_reducible refine Lit.imm ?_)
        | ((with_reducible refine Grow.intro ?_ fun b cap hb hc1 hc2 => ?_); omega) <;> (try simp -dsimp -implicitDefEqProofs [*] at hb)
        | (with_reducible refine DrawLate.intro [] ?_)
        | (with_reducible refine Cls_and ?_ ?_)
        | (with_reducible exact Cls.self _ _)
        | (with_reducible refine Cls_same ?_)
        | (with_reducible refine Cls_in ?_ ?_)
        | (with_reducible refine Cls_fresh ?_ ?_)
        | (with_reducible refine And.intro (fun h => ?_) (fun h => ?_)) <;> (try (exfalso; omega))
        | (with_reducible refine And.intro (fun h => ?_) ?_) <;> (try (exfalso; omega))
        | ((with_reducible refine and_keep ?_ fun hk => ?_); omega)
        | (simp -dsimp -implicitDefEqProofs [*]))
      · refine xappend_acc Event.row_len Event.row_append ha (by simp [*]) [l[i]] (by simp) (by simp) (by omega) fun a' ha' hl' hb' => ?_
        simp -dsimp -implicitDefEqProofs [*] at hb'
        have hl2 : a'.l = a.l ++ [l[i]] := hl'
        have hF2 : (l.take (i + 1)).filter (fun x => counts x d t) = a'.l := by rw [hFi, hl2]; simp [*]
        clear hl' hFi
        repeat' (first
          | (with_reducible refine Fresh.intro fun b hb => ?_) <;> (try simp -dsimp -implicitDefEqProofs [*] at hb)
          | (with_reducible refine Lit.imm ?_)
          | ((with_reducible refine Grow.intro ?_ fun b cap hb hc1 hc2 => ?_); omega) <;> (try simp -dsimp -implicitDefEqProofs [*] at hb)
          | (with_reducible refine DrawLate.intro [] ?_)
          | (with_reducible refine Cls_and ?_ ?_)
          | (with_reducible exact Cls.self _ _)
          | (with_reducible refine Cls_same ?_)
          | (with_reducible refine Cls_in ?_ ?_)
          | (with_reducible refine Cls_fresh ?_ ?_)
          | (with_reducible refine And.intro (fun h => ?_) (fun h => ?_)) <;> (try (exfalso; omega))
          | (with_reducible refine And.intro (fun h => ?_) ?_) <;> (try (exfalso; omega))
          | ((with_reducible refine and_keep ?_ fun hk => ?_); omega)
          | (simp -dsimp -implicitDefEqProofs [*]))
        by_cases he : i + 1 = l.length
        · rw [he, List.take_of_length_le (Nat.le_refl _)] at hF2
          refine Next.view (i + 1, none) ⟨by simp only; omega, he⟩ (by simp only; omega) (View.frz (b := a'.b) (o := .arr T.apiEvent a'.R) (by simp [*]) (by repeat' (first | exact StLe.refl _ | (refine StLe_cons (by simp [*]; done) ?_) | (refine StLe_fresh (by simp [*]; done) ?_))) ?_)
          simp [laterE, hF2, hX, Frz.refl]
          have := Frz.acc (T := T.apiEvent) ha'
          rw [show a.l.length + 1 = a'.l.length by simp [hl2]]
          exact this
        · exact Next.intro (i + 1, some (some a')) ⟨by simp only; omega, by simp only; exact ⟨by omega, ha', by simp [*], hF2⟩⟩ (by simp only; omega) (by simp [laterE, hX, hl2]) (by repeat' (first | exact StLe.refl _ | (refine StLe_cons (by simp [*]; done) ?_) | (refine StLe_fresh (by simp [*]; done) ?_)))
      · have hF2 : (l.take (i + 1)).filter (fun x => counts x d t) = a.l := by rw [hFi]; simp [*]
        clear hFi
        by_cases he : i + 1 = l.length
        · rw [he, List.take_of_length_le (Nat.le_refl _)] at hF2
          refine Next.view (i + 1, none) ⟨by simp only; omega, he⟩ (by simp only; omega) (View.frz (b := a.b) (o := .arr T.apiEvent a.R) (by simp [*]) (by repeat' (first | exact StLe.refl _ | (refine StLe_cons (by simp [*]; done) ?_) | (refine StLe_fresh (by simp [*]; done) ?_))) ?_)
          simp [laterE, hF2, hX, Frz.refl]
          exact Frz.acc ha
        · exact Next.intro (i + 1, some (some a)) ⟨by simp only; omega, by simp only; exact ⟨by omega, ha, by simp [*], hF2⟩⟩ (by simp only; omega) (by simp [laterE, hX]) (by repeat' (first | exact StLe.refl _ | (refine StLe_cons (by simp [*]; done) ?_) | (refine StLe_fresh (by simp [*]; done) ?_)))
  · repeat' (first
      | (with_reducible refine Fresh.intro fun b hb => ?_) <;> (try simp -dsimp -implicitDefEqProofs [*] at hb)
      | (with_reducible refine Rets.xcall (sane_spec _) ?_)
      | (with_reducible refine Rets.xsoft (sane_spec _) ?_)
      | (with_reducible refine xlateCall_of (fun _ => sane_spec _) ?_)
      | (with_reducible refine Rets.xcall (standing_spec ..) ?_)
      | (with_reducible refine Rets.xsoft (standing_spec ..) ?_)
      | (with_reducible refine xlateCall_of (fun _ => standing_spec ..) ?_)
      | (with_reducible refine Lit.imm ?_)
      | ((with_reducible refine Grow.intro ?_ fun b cap hb hc1 hc2 => ?_); omega) <;> (try simp -dsimp -implicitDefEqProofs [*] at hb)
      | (with_reducible refine DrawLate.intro [] ?_)
      | (with_reducible refine Cls_and ?_ ?_)
      | (with_reducible exact Cls.self _ _)
      | (with_reducible refine Cls_same ?_)
      | (with_reducible refine Cls_in ?_ ?_)
      | (with_reducible refine Cls_fresh ?_ ?_)
      | (with_reducible refine And.intro (fun h => ?_) (fun h => ?_)) <;> (try (exfalso; omega))
      | (with_reducible refine And.intro (fun h => ?_) ?_) <;> (try (exfalso; omega))
      | ((with_reducible refine and_keep ?_ fun hk => ?_); omega)
      | (simp -dsimp -implicitDefEqProofs [*]))
end Go.Proofs.Ytahdhdgglbcagaa
