/- RecordOrder: the walk. -/
import Derived.Test.YtahdhdgglbcagaaS49L
namespace Go.Proofs.Ytahdhdgglbcagaa
open Go.Pv
set_option maxRecDepth 100000
set_option maxHeartbeats 4000000
theorem addN_zero {l : List Event} {x : Event} : addN l x = 0 ↔ checkE l = 0 ∧ rightE x = true ∧ has l x.no = false ∧ l.length ≠ 4096 := by
  unfold addN
  split
  · simp_all
  · split
    · simp_all
    · split
      · simp_all
      · split <;> simp_all
theorem has_false {l : List Event} {n : Int} : has l n = false ↔ ∀ e ∈ l, e.no ≠ n := by
  simp [has]
theorem mem_ins {l : List Event} {i : Nat} {a e : Event} : e ∈ ins l i a ↔ e = a ∨ e ∈ l := by
  have h : e ∈ l ↔ e ∈ l.take i ∨ e ∈ l.drop i := by rw [← List.mem_append, List.take_append_drop]
  rw [h]
  simp only [ins, List.mem_append, List.mem_cons]
  constructor
  · rintro (h | h | h)
    · exact .inr (.inl h)
    · exact .inl h
    · exact .inr (.inr h)
  · rintro (h | h | h)
    · exact .inr (.inl h)
    · exact .inl h
    · exact .inr (.inr h)
theorem ok_ins {l : List Event} {a : Event} (hok : ok l) (hr : rightE a = true) (hh : has l a.no = false) : ok (ins l (pos l a.no) a) := by
  refine ⟨fun e he => ?_, ?_⟩
  · rcases mem_ins.1 he with rfl | he
    · exact hr
    · exact hok.1 e he
  · rw [ins_filter hok, List.pairwise_append, List.pairwise_cons]
    refine ⟨hok.2.sublist List.filter_sublist, ⟨fun z hz => ?_, hok.2.sublist List.filter_sublist⟩, fun x hx y hy => ?_⟩
    · obtain ⟨h1, h2⟩ := List.mem_filter.1 hz
      have h3 := has_false.1 hh z h1
      simp at h2
      omega
    · have h2 := (List.mem_filter.1 hx).2
      simp at h2
      rcases List.mem_cons.1 hy with rfl | hy
      · exact h2
      · have h4 := (List.mem_filter.1 hy).2
        simp at h4
        omega
theorem ok_ext : ∀ {l m : List Event}, ok l → ok m → (∀ e, e ∈ l ↔ e ∈ m) → l = m
  | [], [], _, _, _ => rfl
  | [], y :: m, _, _, h => by have := (h y).2 (by simp); simp at this
  | x :: l, [], _, _, h => by have := (h x).1 (by simp); simp at this
  | x :: l, y :: m, hl, hm, h => by
    obtain ⟨hx, hl2⟩ := List.pairwise_cons.1 hl.2
    obtain ⟨hy, hm2⟩ := List.pairwise_cons.1 hm.2
    have e : x = y := by
      rcases List.mem_cons.1 ((h x).1 (by simp)) with e | e
      · exact e
      · rcases List.mem_cons.1 ((h y).2 (by simp)) with e' | e'
        · exact e'.symm
        · have h1 := hy x e
          have h2 := hx y e'
          omega
    subst e
    have := ok_ext (l := l) (m := m) ⟨fun e he => hl.1 e (by simp [he]), hl2⟩ ⟨fun e he => hm.1 e (by simp [he]), hm2⟩ fun e => by
      constructor
      · intro he
        rcases List.mem_cons.1 ((h e).1 (by simp [he])) with e1 | e1
        · subst e1; have := hx e he; omega
        · exact e1
      · intro he
        rcases List.mem_cons.1 ((h e).2 (by simp [he])) with e1 | e1
        · subst e1; have := hy e he; omega
        · exact e1
    rw [this]
theorem addL_ok {l : List Event} {a : Event} (hn : addN l a = 0) : addL l a = ins l (pos l a.no) a ∧ ok (addL l a) := by
  have e : addL l a = ins l (pos l a.no) a := by simp [addL, hn]
  obtain ⟨h1, h2, h3, -⟩ := addN_zero.1 hn
  exact ⟨e, by rw [e]; exact ok_ins (checkE_zero.1 h1).2 h2 h3⟩
theorem mem_addL {l : List Event} {a e : Event} (hn : addN l a = 0) : e ∈ addL l a ↔ e = a ∨ e ∈ l := by rw [(addL_ok hn).1]; exact mem_ins
theorem order_facts {l : List Event} {a : Event} (hl : l.length ≤ 60) (hn : addN l a = 0) :
    (addL l a).filter (fun e => !decide (e = a)) = l ∧ ((addL l a).filter (fun e => decide (e = a))).length = 1 ∧ checkE (addL l a) = 0 ∧
    ∀ b, (addN (addL l a) b ≠ 0 → addN l b ≠ 0 ∨ a.no = b.no) ∧ (addN (addL l a) b = 0 → addN l b = 0 ∧ addN (addL l b) a = 0 ∧ addL (addL l a) b = addL (addL l b) a) := by
  obtain ⟨h1, h2, h3, h4⟩ := addN_zero.1 hn
  obtain ⟨e, hok⟩ := addL_ok hn
  have hne : ∀ x ∈ l, x ≠ a := fun x hx => by rintro rfl; exact has_false.1 h3 x hx rfl
  have len := addL_len l a
  have hc : checkE (addL l a) = 0 := checkE_zero.2 ⟨by omega, hok⟩
  refine ⟨?_, ?_, hc, fun b => ⟨fun hb => ?_, fun hb => ?_⟩⟩
  · have h5 : l.filter (fun e => !decide (e = a)) = l := List.filter_eq_self.2 fun x hx => by simp [hne x hx]
    rw [e, ins, List.filter_append, List.filter_cons]
    simp only [decide_true, Bool.not_true]
    rw [if_neg (by simp), ← List.filter_append, List.take_append_drop]
    exact h5
  · have h5 : ∀ m : List Event, (∀ x ∈ m, x ∈ l) → m.filter (fun e => decide (e = a)) = [] := fun m hm => List.filter_eq_nil_iff.2 fun x hx => by simp [hne x (hm x hx)]
    rw [e, ins, List.filter_append, List.filter_cons, h5 _ fun x hx => List.mem_of_mem_take hx, h5 _ fun x hx => List.mem_of_mem_drop hx]
    simp
  · by_cases hab : a.no = b.no
    · exact .inr hab
    · refine .inl fun hb0 => hb ?_
      obtain ⟨-, g2, g3, -⟩ := addN_zero.1 hb0
      refine addN_zero.2 ⟨hc, g2, has_false.2 fun x hx => ?_, by omega⟩
      rcases (mem_addL hn).1 hx with rfl | hx
      · exact hab
      · exact has_false.1 g3 x hx
  · obtain ⟨-, g2, g3, -⟩ := addN_zero.1 hb
    have g3 := has_false.1 g3
    have hab : a.no ≠ b.no := g3 a ((mem_addL hn).2 (.inl rfl))
    have k1 : addN l b = 0 := addN_zero.2 ⟨h1, g2, has_false.2 fun x hx => g3 x ((mem_addL hn).2 (.inr hx)), h4⟩
    obtain ⟨-, hokb⟩ := addL_ok k1
    have lenb := addL_len l b
    have k2 : addN (addL l b) a = 0 := addN_zero.2 ⟨checkE_zero.2 ⟨by omega, hokb⟩, h2, has_false.2 fun x hx => by
      rcases (mem_addL k1).1 hx with rfl | hx
      · exact fun h => hab h.symm
      · exact has_false.1 h3 x hx, by omega⟩
    refine ⟨k1, k2, ok_ext (addL_ok hb).2 (addL_ok k2).2 fun x => ?_⟩
    rw [mem_addL hb, mem_addL hn, mem_addL k2, mem_addL k1]
    constructor
    · rintro (h | h | h)
      · exact .inr (.inl h)
      · exact .inl h
      · exact .inr (.inr h)
    · rintro (h | h | h)
      · exact .inr (.inl h)
      · exact .inl h
      · exact .inr (.inr h)
def orderE (l X R : List Event) (b4 b5 : Nat) (a : Event) (tt : Bool) : Nat × Option (Option (Acc Event)) → Env := fun y =>
  [(0, Event.lst tt l), (4, .ptr b4 0), (5, .ptr b5 0), (6, .bool false), (7, Event.lst false X), (35, Event.lst false X), (36, .int X.length), (37, .int (y.1 : Nat)),
    (9, .int ((X.take y.1).filter (fun e => decide (e = a))).length),
    (10, match y.2 with | none => Event.lst false R | some none => .nil | some (some a) => .own a.b 0 a.l.length a.cap)]
theorem order_law (tt : Bool) (l : List Event) (a c : Event) (st : Store) : Rets P F.podiumlaw49_RecordOrder [Event.lst tt l, a.pv, c.pv] st (.bool true) := by
  refine (H.podiumlaw49_RecordOrder).pure hmix rfl rfl ?_
  by_cases hl : (60 : Int) < (l.length : Int)
  · repeat' (first
      | (with_reducible refine Fresh.intro fun b hb => ?_) <;> (try simp -dsimp -implicitDefEqProofs [*] at hb)
      | (with_reducible refine Rets.xcall (sane_spec _) ?_)
      | (with_reducible refine Rets.xsoft (sane_spec _) ?_)
      | (with_reducible refine xlateCall_of (fun _ => sane_spec _) ?_)
      | (with_reducible refine Lit.imm ?_)
      | ((with_reducible refine Grow.intro ?_ fun b cap hb hc1 hc2 => ?_); omega) <;> (try simp -dsimp -implicitDefEqProofs [*] at hb)
      | (with_reducible refine DrawLate.intro [] ?_)
      | (with_reducible refine Cls_and ?_ ?_)
      | (with_reducible exact Cls.self _ _)
      | (with_reducible refine Cls_same ?_)
      | (with_reducible refine Cls_in ?_ ?_)
      | (with_reducible refine Cls_fresh ?_ ?_)
      | (with_reducible refine And.intro (fun h => ?_) (fun h => ?_)) <;> (try (exfalso; omega))
      | (with_reducible refine And.intro (fun h => ?_) ?_) <;> (try (exfalso; omega))
      | ((with_reducible refine and_keep ?_ fun hk => ?_); omega)
      | (simp -dsimp -implicitDefEqProofs [*]))
  have hl9 : l.length ≤ 60 := by omega
  by_cases hn : addN l a = 0
  · obtain ⟨f1, f2, f3, f4⟩ := order_facts hl9 hn
    have h2 := addL_len l a
    generalize hX : addL l a = X at *
    have lX : X.length ≤ 61 := by omega
    have lX0 : 0 < X.length := by
      cases X with
      | nil => simp at f2
      | cons => simp
    have f4c := f4 c
    clear f4
    obtain ⟨f4, f5⟩ := f4c
    have G : ∀ i (h : i < X.length), (X.take (i + 1)).filter (fun e => decide (e = a)) = (X.take i).filter (fun e => decide (e = a)) ++ if decide (X[i] = a) then [X[i]] else [] := fun i h => filter_snoc _ _ _ h
    have F : ∀ i (h : i < X.length), (X.take (i + 1)).filter (fun e => !decide (e = a)) = (X.take i).filter (fun e => !decide (e = a)) ++ if !decide (X[i] = a) then [X[i]] else [] := fun i h => filter_snoc _ _ _ h
    have G0 : ∀ i, ((X.take i).filter (fun e => decide (e = a))).length ≤ 61 := fun i => by
      have := List.length_filter_le (fun e => decide (e = a)) (X.take i)
      rw [List.length_take] at this
      omega
    have F0 : ∀ i, ((X.take i).filter (fun e => !decide (e = a))).length ≤ 61 := fun i => by
      have := List.length_filter_le (fun e => !decide (e = a)) (X.take i)
      rw [List.length_take] at this
      omega
    repeat' (first
      | (with_reducible refine Fresh.intro fun b hb => ?_) <;> (try simp -dsimp -implicitDefEqProofs [*] at hb)
      | (with_reducible refine Rets.xcall (sane_spec _) ?_)
      | (with_reducible refine Rets.xsoft (sane_spec _) ?_)
      | (with_reducible refine xlateCall_of (fun _ => sane_spec _) ?_)
      | (with_reducible refine Rets.xcall (add_spec ..) ?_)
      | (with_reducible refine Rets.xsoft (add_spec ..) ?_)
      | (with_reducible refine xlateCall_of (fun _ => add_spec ..) ?_)
      | (with_reducible refine Lit.imm ?_)
      | ((with_reducible refine Grow.intro ?_ fun b cap hb hc1 hc2 => ?_); omega) <;> (try simp -dsimp -implicitDefEqProofs [*] at hb)
      | (with_reducible refine DrawLate.intro [] ?_)
      | (with_reducible refine Cls_and ?_ ?_)
      | (with_reducible exact Cls.self _ _)
      | (with_reducible refine Cls_same ?_)
      | (with_reducible refine Cls_in ?_ ?_)
      | (with_reducible refine Cls_fresh ?_ ?_)
      | (with_reducible refine And.intro (fun h => ?_) (fun h => ?_)) <;> (try (exfalso; omega))
      | (with_reducible refine And.intro (fun h => ?_) ?_) <;> (try (exfalso; omega))
      | ((with_reducible refine and_keep ?_ fun hk => ?_); omega)
      | (simp -dsimp -implicitDefEqProofs [*]))
    rename_i b4 hb4
    refine xloop_view (orderE l X l b4 b a tt) (fun y => (match y.2 with | some (some q) => [(q.b, .arr T.apiEvent q.R)] | _ => []) ++ (b, .arr T.apiEvent c.enc) :: (b4, .arr T.apiEvent a.enc) :: st)
      (fun y => y.1 ≤ X.length ∧ match y.2 with | none => y.1 = X.length | some none => y.1 < X.length ∧ (X.take y.1).filter (fun e => !decide (e = a)) = [] | some (some q) => y.1 < X.length ∧ q.Ok Event.row 9 ∧ snew ((b, .arr T.apiEvent c.enc) :: (b4, .arr T.apiEvent a.enc) :: st) q.b ∧ (X.take y.1).filter (fun e => !decide (e = a)) = q.l)
      (fun y => X.length - y.1) (0, some none) (by simp; exact lX0) (View.weak (by simp [orderE]) (.refl _)) ?_
    rintro ⟨i, y⟩ ⟨hi, hy⟩
    simp only at hi hy
    have hw := wrap_succ (n := i) (by omega)
    have hGi0 := G0 i
    generalize hm : ((X.take i).filter (fun e => decide (e = a))).length = m at *
    have hwm := wrap_succ (n := m) (by omega)
    rcases y with _ | _ | q
    · simp only at hy
      subst hy
      rw [List.take_of_length_le (Nat.le_refl _), f2] at hm
      subst hm
      simp only [orderE, List.take_of_length_le (Nat.le_refl _), f2]
      clear F G F0 G0 f1 f2 hX hGi0 hwm
      by_cases hc : addN X c = 0
      · obtain ⟨g1, g2, g3⟩ := f5 hc
        clear f4 f5
        have g4 : (addL X c).length ≤ 100000 := by have := addL_len X c; omega
        generalize hY : addL X c = Y at *
        replace g3 := g3.symm
        repeat' (first
          | (with_reducible refine Fresh.intro fun b hb => ?_) <;> (try simp -dsimp -implicitDefEqProofs [*] at hb)
          | (with_reducible refine Rets.xcall (add_spec ..) ?_)
          | (with_reducible refine Rets.xsoft (add_spec ..) ?_)
          | (with_reducible refine xlateCall_of (fun _ => add_spec ..) ?_)
          | (with_reducible refine Rets.xcall (check_spec ..) ?_)
          | (with_reducible refine Rets.xsoft (check_spec ..) ?_)
          | (with_reducible refine xlateCall_of (fun _ => check_spec ..) ?_)
          | (with_reducible refine Rets.xcall (same_l _ _ l l (by omega) rfl _) ?_)
          | (with_reducible refine Rets.xsoft (same_l _ _ l l (by omega) rfl _) ?_)
          | (with_reducible refine xlateCall_of (fun _ => same_l _ _ l l (by omega) rfl _) ?_)
          | (with_reducible refine Rets.xcall (same_l _ _ Y Y g4 rfl _) ?_)
          | (with_reducible refine Rets.xsoft (same_l _ _ Y Y g4 rfl _) ?_)
          | (with_reducible refine xlateCall_of (fun _ => same_l _ _ Y Y g4 rfl _) ?_)
          | (with_reducible refine Lit.imm ?_)
          | ((with_reducible refine Grow.intro ?_ fun b cap hb hc1 hc2 => ?_); omega) <;> (try simp -dsimp -implicitDefEqProofs [*] at hb)
          | (with_reducible refine DrawLate.intro [] ?_)
          | (with_reducible refine Cls_and ?_ ?_)
          | (with_reducible exact Cls.self _ _)
          | (with_reducible refine Cls_same ?_)
          | (with_reducible refine Cls_in ?_ ?_)
          | (with_reducible refine Cls_fresh ?_ ?_)
          | (with_reducible refine And.intro (fun h => ?_) (fun h => ?_)) <;> (try (exfalso; omega))
          | (with_reducible refine And.intro (fun h => ?_) ?_) <;> (try (exfalso; omega))
          | ((with_reducible refine and_keep ?_ fun hk => ?_); omega)
          | (simp -dsimp -implicitDefEqProofs [*]))
      · have f6 := f4 hc
        clear f4 f5
        repeat' (first
          | (with_reducible refine Fresh.intro fun b hb => ?_) <;> (try simp -dsimp -implicitDefEqProofs [*] at hb)
          | (with_reducible refine Rets.xcall (add_spec ..) ?_)
          | (with_reducible refine Rets.xsoft (add_spec ..) ?_)
          | (with_reducible refine xlateCall_of (fun _ => add_spec ..) ?_)
          | (with_reducible refine Rets.xcall (check_spec ..) ?_)
          | (with_reducible refine Rets.xsoft (check_spec ..) ?_)
          | (with_reducible refine xlateCall_of (fun _ => check_spec ..) ?_)
          | (with_reducible refine Rets.xcall (same_l _ _ l l (by omega) rfl _) ?_)
          | (with_reducible refine Rets.xsoft (same_l _ _ l l (by omega) rfl _) ?_)
          | (with_reducible refine xlateCall_of (fun _ => same_l _ _ l l (by omega) rfl _) ?_)
          | (with_reducible refine Lit.imm ?_)
          | ((with_reducible refine Grow.intro ?_ fun b cap hb hc1 hc2 => ?_); omega) <;> (try simp -dsimp -implicitDefEqProofs [*] at hb)
          | (with_reducible refine DrawLate.intro [] ?_)
          | (with_reducible refine Cls_and ?_ ?_)
          | (with_reducible exact Cls.self _ _)
          | (with_reducible refine Cls_same ?_)
          | (with_reducible refine Cls_in ?_ ?_)
          | (with_reducible refine Cls_fresh ?_ ?_)
          | (with_reducible refine And.intro (fun h => ?_) (fun h => ?_)) <;> (try (exfalso; omega))
          | (with_reducible refine And.intro (fun h => ?_) ?_) <;> (try (exfalso; omega))
          | ((with_reducible refine and_keep ?_ fun hk => ?_); omega)
          | (simp -dsimp -implicitDefEqProofs [*]))
        rcases f6 with f6 | f6
        · intro h; exact absurd h f6
        · exact fun _ => f6
    · obtain ⟨hi2, hF⟩ := hy
      simp only [orderE, hm]
      have hFi := F i hi2
      have hGi := G i hi2
      rw [hF] at hFi
      clear F G F0 G0 hF f4 f5 f3
      repeat' (first
        | (with_reducible refine Fresh.intro fun b hb => ?_) <;> (try simp -dsimp -implicitDefEqProofs [*] at hb)
        | (with_reducible refine Lit.imm ?_)
        | ((with_reducible refine Grow.intro ?_ fun b cap hb hc1 hc2 => ?_); omega) <;> (try simp -dsimp -implicitDefEqProofs [*] at hb)
        | (with_reducible refine DrawLate.intro [] ?_)
        | (with_reducible refine Cls_and ?_ ?_)
        | (with_reducible exact Cls.self _ _)
        | (with_reducible refine Cls_same ?_)
        | (with_reducible refine Cls_in ?_ ?_)
        | (with_reducible refine Cls_fresh ?_ ?_)
        | (with_reducible refine And.intro (fun h => ?_) (fun h => ?_)) <;> (try (exfalso; omega))
        | (with_reducible refine And.intro (fun h => ?_) ?_) <;> (try (exfalso; omega))
        | ((with_reducible refine and_keep ?_ fun hk => ?_); omega)
        | (simp -dsimp -implicitDefEqProofs [*]))
      · have hF2 : (X.take (i + 1)).filter (fun e => !decide (e = a)) = [] := by rw [hFi]; simp [*]
        have hG2 : ((X.take (i + 1)).filter (fun e => decide (e = a))).length = m + 1 := by rw [hGi, List.length_append, hm]; simp [*]
        clear hFi hGi
        by_cases he : i + 1 = X.length
        · have hF3 := hF2
          rw [he, List.take_of_length_le (Nat.le_refl _), f1] at hF3
          refine Next.view (i + 1, none) ⟨by simp only; omega, he⟩ (by simp only; omega) (View.ple (by repeat' (first | exact StLe.refl _ | (refine StLe_cons (by simp [*]; done) ?_) | (refine StLe_fresh (by simp [*]; done) ?_))) ?_)
          simp [orderE, hG2, hF3, PLe.refl]
          exact PLe.nil1
        · exact Next.intro (i + 1, some none) ⟨by simp only; omega, by simp only; exact ⟨by omega, hF2⟩⟩ (by simp only; omega) (by simp [orderE, hG2]) (by repeat' (first | exact StLe.refl _ | (refine StLe_cons (by simp [*]; done) ?_) | (refine StLe_fresh (by simp [*]; done) ?_)))
      · refine xappend_acc0 Event.row_len [X[i]] (by simp) (by simp) (by omega) (by omega) fun a' ha' hl' hb' => ?_
        simp -dsimp -implicitDefEqProofs [*] at hb'
        have hl2 : a'.l = [X[i]] := hl'
        have hF2 : (X.take (i + 1)).filter (fun e => !decide (e = a)) = a'.l := by rw [hFi, hl2]; simp [*]
        have hG2 : ((X.take (i + 1)).filter (fun e => decide (e = a))).length = m := by rw [hGi, List.length_append, hm]; simp [*]
        clear hl' hFi hGi
        repeat' (first
          | (with_reducible refine Fresh.intro fun b hb => ?_) <;> (try simp -dsimp -implicitDefEqProofs [*] at hb)
          | (with_reducible refine Lit.imm ?_)
          | ((with_reducible refine Grow.intro ?_ fun b cap hb hc1 hc2 => ?_); omega) <;> (try simp -dsimp -implicitDefEqProofs [*] at hb)
          | (with_reducible refine DrawLate.intro [] ?_)
          | (with_reducible refine Cls_and ?_ ?_)
          | (with_reducible exact Cls.self _ _)
          | (with_reducible refine Cls_same ?_)
          | (with_reducible refine Cls_in ?_ ?_)
          | (with_reducible refine Cls_fresh ?_ ?_)
          | (with_reducible refine And.intro (fun h => ?_) (fun h => ?_)) <;> (try (exfalso; omega))
          | (with_reducible refine And.intro (fun h => ?_) ?_) <;> (try (exfalso; omega))
          | ((with_reducible refine and_keep ?_ fun hk => ?_); omega)
          | (simp -dsimp -implicitDefEqProofs [*]))
        by_cases he : i + 1 = X.length
        · have hF3 := hF2
          rw [he, List.take_of_length_le (Nat.le_refl _), f1] at hF3
          refine Next.view (i + 1, none) ⟨by simp only; omega, he⟩ (by simp only; omega) (View.frz (b := a'.b) (o := .arr T.apiEvent a'.R) (by simp [*]) (by repeat' (first | exact StLe.refl _ | (refine StLe_cons (by simp [*]; done) ?_) | (refine StLe_fresh (by simp [*]; done) ?_))) ?_)
          simp [orderE, hG2, hF3, Frz.refl]
          rw [show 1 = a'.l.length by simp [hl2]]
          exact Frz.acc ha'
        · exact Next.intro (i + 1, some (some a')) ⟨by simp only; omega, by simp only; exact ⟨by omega, ha', by simp [*], hF2⟩⟩ (by simp only; omega) (by simp [orderE, hG2, hl2]) (by repeat' (first | exact StLe.refl _ | (refine StLe_cons (by simp [*]; done) ?_) | (refine StLe_fresh (by simp [*]; done) ?_)))
    · obtain ⟨hi2, ha, hb, hF⟩ := hy
      simp only [snew_cons] at hb
      simp only [orderE, hm]
      have hFi := F i hi2
      have hGi := G i hi2
      have hal := F0 i
      rw [hF] at hFi hal
      clear F G F0 G0 hF f4 f5 f3
      repeat' (first
        | (with_reducible refine Fresh.intro fun b hb => ?_) <;> (try simp -dsimp -implicitDefEqProofs [*] at hb)
        | (with_reducible refine Lit.imm ?_)
        | ((with_reducible refine Grow.intro ?_ fun b cap hb hc1 hc2 => ?_); omega) <;> (try simp -dsimp -implicitDefEqProofs [*] at hb)
        | (with_reducible refine DrawLate.intro [] ?_)
        | (with_reducible refine Cls_and ?_ ?_)
        | (with_reducible exact Cls.self _ _)
        | (with_reducible refine Cls_same ?_)
        | (with_reducible refine Cls_in ?_ ?_)
        | (with_reducible refine Cls_fresh ?_ ?_)
        | (with_reducible refine And.intro (fun h => ?_) (fun h => ?_)) <;> (try (exfalso; omega))
        | (with_reducible refine And.intro (fun h => ?_) ?_) <;> (try (exfalso; omega))
        | ((with_reducible refine and_keep ?_ fun hk => ?_); omega)
        | (simp -dsimp -implicitDefEqProofs [List.cons_append, List.nil_append, *]))
      all_goals skip
      · have hF2 : (X.take (i + 1)).filter (fun e => !decide (e = a)) = q.l := by rw [hFi]; simp [*]
        have hG2 : ((X.take (i + 1)).filter (fun e => decide (e = a))).length = m + 1 := by rw [hGi, List.length_append, hm]; simp [*]
        clear hFi hGi
        by_cases he : i + 1 = X.length
        · have hF3 := hF2
          rw [he, List.take_of_length_le (Nat.le_refl _), f1] at hF3
          refine Next.view (i + 1, none) ⟨by simp only; omega, he⟩ (by simp only; omega) (View.frz (b := q.b) (o := .arr T.apiEvent q.R) (by simp [*]) (by repeat' (first | exact StLe.refl _ | (refine StLe_cons (by simp [*]; done) ?_) | (refine StLe_fresh (by simp [*]; done) ?_))) ?_)
          simp [orderE, hG2, hF3, Frz.refl]
          exact Frz.acc ha
        · exact Next.intro (i + 1, some (some q)) ⟨by simp only; omega, by simp only; exact ⟨by omega, ha, by simp [*], hF2⟩⟩ (by simp only; omega) (by simp [orderE, hG2]) (by repeat' (first | exact StLe.refl _ | (refine StLe_cons (by simp [*]; done) ?_) | (refine StLe_fresh (by simp [*]; done) ?_)))
      · refine xappend_acc Event.row_len Event.row_append ha (by simp [*]) [X[i]] (by simp) (by simp) (by omega) fun a' ha' hl' hb' => ?_
        simp -dsimp -implicitDefEqProofs [*] at hb'
        have hl2 : a'.l = q.l ++ [X[i]] := hl'
        have hF2 : (X.take (i + 1)).filter (fun e => !decide (e = a)) = a'.l := by rw [hFi, hl2]; simp [*]
        have hG2 : ((X.take (i + 1)).filter (fun e => decide (e = a))).length = m := by rw [hGi, List.length_append, hm]; simp [*]
        clear hl' hFi hGi
        repeat' (first
          | (with_reducible refine Fresh.intro fun b hb => ?_) <;> (try simp -dsimp -implicitDefEqProofs [*] at hb)
          | (with_reducible refine Lit.imm ?_)
          | ((with_reducible refine Grow.intro ?_ fun b cap hb hc1 hc2 => ?_); omega) <;> (try simp -dsimp -implicitDefEqProofs [*] at hb)
          | (with_reducible refine DrawLate.intro [] ?_)
          | (with_reducible refine Cls_and ?_ ?_)
          | (with_reducible exact Cls.self _ _)
          | (with_reducible refine Cls_same ?_)
          | (with_reducible refine Cls_in ?_ ?_)
          | (with_reducible refine Cls_fresh ?_ ?_)
          | (with_reducible refine And.intro (fun h => ?_) (fun h => ?_)) <;> (try (exfalso; omega))
          | (with_reducible refine And.intro (fun h => ?_) ?_) <;> (try (exfalso; omega))
          | ((with_reducible refine and_keep ?_ fun hk => ?_); omega)
          | (simp -dsimp -implicitDefEqProofs [*]))
        by_cases he : i + 1 = X.length
        · have hF3 := hF2
          rw [he, List.take_of_length_le (Nat.le_refl _), f1] at hF3
          refine Next.view (i + 1, none) ⟨by simp only; omega, he⟩ (by simp only; omega) (View.frz (b := a'.b) (o := .arr T.apiEvent a'.R) (by simp [*]) (by repeat' (first | exact StLe.refl _ | (refine StLe_cons (by simp [*]; done) ?_) | (refine StLe_fresh (by simp [*]; done) ?_))) ?_)
          simp [orderE, hG2, hF3, Frz.refl]
          rw [show q.l.length + 1 = a'.l.length by simp [hl2]]
          exact Frz.acc ha'
        · exact Next.intro (i + 1, some (some a')) ⟨by simp only; omega, by simp only; exact ⟨by omega, ha', by simp [*], hF2⟩⟩ (by simp only; omega) (by simp [orderE, hG2, hl2]) (by repeat' (first | exact StLe.refl _ | (refine StLe_cons (by simp [*]; done) ?_) | (refine StLe_fresh (by simp [*]; done) ?_)))
  · have hL : addL l a = [] := by simp [addL, hn]
    repeat' (first
      | (with_reducible refine Fresh.intro fun b hb => ?_) <;> (try simp -dsimp -implicitDefEqProofs [*] at hb)
      | (with_reducible refine Rets.xcall (sane_spec _) ?_)
      | (with_reducible refine Rets.xsoft (sane_spec _) ?_)
      | (with_reducible refine xlateCall_of (fun _ => sane_spec _) ?_)
      | (with_reducible refine Rets.xcall (add_spec ..) ?_)
      | (with_reducible refine Rets.xsoft (add_spec ..) ?_)
      | (with_reducible refine xlateCall_of (fun _ => add_spec ..) ?_)
      | (with_reducible refine Lit.imm ?_)
      | ((with_reducible refine Grow.intro ?_ fun b cap hb hc1 hc2 => ?_); omega) <;> (try simp -dsimp -implicitDefEqProofs [*] at hb)
      | (with_reducible refine DrawLate.intro [] ?_)
      | (with_reducible refine Cls_and ?_ ?_)
      | (with_reducible exact Cls.self _ _)
      | (with_reducible refine Cls_same ?_)
      | (with_reducible refine Cls_in ?_ ?_)
      | (with_reducible refine Cls_fresh ?_ ?_)
      | (with_reducible refine And.intro (fun h => ?_) (fun h => ?_)) <;> (try (exfalso; omega))
      | (with_reducible refine And.intro (fun h => ?_) ?_) <;> (try (exfalso; omega))
      | ((with_reducible refine and_keep ?_ fun hk => ?_); omega)
      | (simp -dsimp -implicitDefEqProofs [*]))
end Go.Proofs.Ytahdhdgglbcagaa
