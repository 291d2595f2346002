/- RecordSlots: the walk. -/
import Derived.Test.YtahdhdgglbcagaaS49R
namespace Go.Proofs.Ytahdhdgglbcagaa
open Go.Pv
set_option maxRecDepth 100000
set_option maxHeartbeats 4000000
def ph (R : List Event) : Option (Option (Acc Event)) → PV
  | none => Event.lst false R
  | some none => .nil
  | some (some a) => .own a.b 0 a.l.length a.cap
def phS : Option (Option (Acc Event)) → Store
  | some (some a) => [(a.b, .arr T.apiEvent a.R)]
  | _ => []
def phI (X : List Event) (y : Event) (st : Store) (i : Nat) : Option (Option (Acc Event)) → Prop
  | none => i = X.length
  | some none => i < X.length ∧ (X.take i).filter (fun w => !sameSlot w y) = []
  | some (some a) => i < X.length ∧ a.Ok Event.row 9 ∧ snew st a.b ∧ (X.take i).filter (fun w => !sameSlot w y) = a.l
def slE1 (l X Z R : List Event) (b : Nat) (y : Event) (d t : Int) (tt : Bool) : Nat × Option (Option (Acc Event)) → Env := fun z =>
  [(0, Event.lst tt l), (2, .int d), (3, .int t), (5, .ptr b 0), (8, .bool false), (11, Event.lst false X), (13, Event.lst false Z), (14, .int 0), (16, .nil), (17, .int 0), (55, Event.lst false X), (56, .int X.length), (57, .int (z.1 : Nat)),
    (18, .int ((X.take z.1).filter (fun w => sameSlot w y)).length), (19, .bool ((X.take z.1).any fun w => sameSlot w y && later w y)), (15, ph R z.2)]
def slE2 (Z R : List Event) (b m : Nat) (B : Bool) (y : Event) (d t : Int) : Nat × Option (Option (Acc Event)) → Env := fun z =>
  [(2, .int d), (3, .int t), (5, .ptr b 0), (8, .bool false), (14, .int 0), (15, Event.lst false R), (18, .int m), (19, .bool B), (77, Event.lst false Z), (78, .int Z.length), (79, .int (z.1 : Nat)),
    (17, .int ((Z.take z.1).filter (fun w => sameSlot w y)).length), (16, ph R z.2)]
theorem slots_law (tt : Bool) (l : List Event) (y : Event) (d t : Int) (st : Store) : Rets P F.podiumlaw49_RecordSlots [Event.lst tt l, y.pv, .int d, .int t] st (.bool true) := by
  refine (H.podiumlaw49_RecordSlots).pure hmix rfl rfl ?_
  by_cases hl : (60 : Int) < (l.length : Int)
  · repeat' (first
      | (with_reducible refine Fresh.intro fun b hb => ?_) <;> (try simp -dsimp -implicitDefEqProofs [*] at hb)
      | (with_reducible refine Rets.xcall (sane_spec _) ?_)
      | (with_reducible refine Rets.xsoft (sane_spec _) ?_)
      | (with_reducible refine xlateCall_of (fun _ => sane_spec _) ?_)
      | (with_reducible refine Lit.imm ?_)
      | ((with_reducible refine Grow.intro ?_ fun b cap hb hc1 hc2 => ?_); omega) <;> (try simp -dsimp -implicitDefEqProofs [*] at hb)
      | (with_reducible refine DrawLate.intro [] ?_)
      | (with_reducible refine Cls_and ?_ ?_)
      | (with_reducible exact Cls.self _ _)
      | (with_reducible refine Cls_same ?_)
      | (with_reducible refine Cls_in ?_ ?_)
      | (with_reducible refine Cls_fresh ?_ ?_)
      | (with_reducible refine And.intro (fun h => ?_) (fun h => ?_)) <;> (try (exfalso; omega))
      | (with_reducible refine And.intro (fun h => ?_) ?_) <;> (try (exfalso; omega))
      | ((with_reducible refine and_keep ?_ fun hk => ?_); omega)
      | (simp -dsimp -implicitDefEqProofs [*]))
  have hl9 : l.length ≤ 60 := by omega
  by_cases hn : addN l y = 0
  · by_cases hs : standN l d t = 0
    · obtain ⟨f1, f2, f3, f4, f5⟩ := slots_facts hl9 hn hs
      have h2 := standL_len l d t
      have h3 := standL_len (addL l y) d t
      have h4 := addL_len l y
      generalize hX : standL l d t = X at *
      generalize hZ : standL (addL l y) d t = Z at *
      have lX : X.length ≤ 60 := by omega
      have lZ : Z.length ≤ 61 := by omega
      repeat' (first
        | (with_reducible refine Fresh.intro fun b hb => ?_) <;> (try simp -dsimp -implicitDefEqProofs [*] at hb)
        | (with_reducible refine Rets.xcall (sane_spec _) ?_)
        | (with_reducible refine Rets.xsoft (sane_spec _) ?_)
        | (with_reducible refine xlateCall_of (fun _ => sane_spec _) ?_)
        | (with_reducible refine Rets.xcall (add_spec ..) ?_)
        | (with_reducible refine Rets.xsoft (add_spec ..) ?_)
        | (with_reducible refine xlateCall_of (fun _ => add_spec ..) ?_)
        | (with_reducible refine Rets.xcall (standing_spec ..) ?_)
        | (with_reducible refine Rets.xsoft (standing_spec ..) ?_)
        | (with_reducible refine xlateCall_of (fun _ => standing_spec ..) ?_)
        | (with_reducible refine Lit.imm ?_)
        | ((with_reducible refine Grow.intro ?_ fun b cap hb hc1 hc2 => ?_); omega) <;> (try simp -dsimp -implicitDefEqProofs [*] at hb)
        | (with_reducible refine DrawLate.intro [] ?_)
        | (with_reducible refine Cls_and ?_ ?_)
        | (with_reducible exact Cls.self _ _)
        | (with_reducible refine Cls_same ?_)
        | (with_reducible refine Cls_in ?_ ?_)
        | (with_reducible refine Cls_fresh ?_ ?_)
        | (with_reducible refine And.intro (fun h => ?_) (fun h => ?_)) <;> (try (exfalso; omega))
        | (with_reducible refine And.intro (fun h => ?_) ?_) <;> (try (exfalso; omega))
        | ((with_reducible refine and_keep ?_ fun hk => ?_); omega)
        | (simp -dsimp -implicitDefEqProofs [*]))
      have G : ∀ i (h : i < X.length), (X.take (i + 1)).filter (fun w => sameSlot w y) = (X.take i).filter (fun w => sameSlot w y) ++ if sameSlot X[i] y then [X[i]] else [] := fun i h => filter_snoc _ _ _ h
      have F : ∀ i (h : i < X.length), (X.take (i + 1)).filter (fun w => !sameSlot w y) = (X.take i).filter (fun w => !sameSlot w y) ++ if !sameSlot X[i] y then [X[i]] else [] := fun i h => filter_snoc _ _ _ h
      have A : ∀ i (h : i < X.length), ((X.take (i + 1)).any fun w => sameSlot w y && later w y) = (((X.take i).any fun w => sameSlot w y && later w y) || (sameSlot X[i] y && later X[i] y)) := fun i h => by
        rw [List.take_succ_eq_append_getElem h, List.any_append]; simp
      have G0 : ∀ i, ((X.take i).filter (fun w => sameSlot w y)).length ≤ 61 := fun i => by
        have := List.length_filter_le (fun w => sameSlot w y) (X.take i)
        rw [List.length_take] at this
        omega
      have F0 : ∀ i, ((X.take i).filter (fun w => !sameSlot w y)).length ≤ 61 := fun i => by
        have := List.length_filter_le (fun w => !sameSlot w y) (X.take i)
        rw [List.length_take] at this
        omega
      generalize hRR : X.filter (fun w => !sameSlot w y) = R at *
      refine xloop_view (slE1 l X Z R b y d t tt) (fun z => phS z.2 ++ (b, .arr T.apiEvent y.enc) :: st) (fun z => z.1 ≤ X.length ∧ phI X y ((b, .arr T.apiEvent y.enc) :: st) z.1 z.2) (fun z => X.length - z.1) (if X = [] then (0, none) else (0, some none)) ?_ ?_ ?_
      · split
        · rename_i h; subst h; simp [phI]
        · rename_i h
          have := List.length_pos_iff.2 h
          simp [phI]; omega
      · split
        · rename_i h; subst h
          have hR0 : R = [] := by rw [← hRR]; rfl
          subst hR0
          refine View.ple (.refl _) ?_
          simp [slE1, ph, PLe.refl]
          exact PLe.nil1
        · exact View.weak (by simp [slE1, ph]) (.refl _)
      rintro ⟨i, z⟩ ⟨hi, hz⟩
      simp only at hi hz
      have hw := wrap_succ (n := i) (by omega)
      have hGi0 := G0 i
      generalize hm : ((X.take i).filter (fun w => sameSlot w y)).length = m at *
      have hwm := wrap_succ (n := m) (by omega)
      generalize hA : ((X.take i).any fun w => sameSlot w y && later w y) = B at *
      rcases z with _ | _ | q
      · simp only [phI] at hz
        subst hz
        rw [List.take_of_length_le (Nat.le_refl _)] at hm hA
        simp only [slE1, ph, List.take_of_length_le (Nat.le_refl _), hm, hA, phS, List.nil_append]
        clear F G F0 G0 A hGi0 hwm
        have lR : R.length ≤ 100000 := by rw [← hRR]; have := List.length_filter_le (fun w => !sameSlot w y) X; omega
        have hRZ := f2.symm
        rw [hA] at f3
        rw [hm] at f5
        clear hm hA hRR hX hZ f2 hi
        repeat' (first
          | (with_reducible refine Fresh.intro fun b hb => ?_) <;> (try simp -dsimp -implicitDefEqProofs [*] at hb)
          | (with_reducible refine Lit.imm ?_)
          | ((with_reducible refine Grow.intro ?_ fun b cap hb hc1 hc2 => ?_); omega) <;> (try simp -dsimp -implicitDefEqProofs [*] at hb)
          | (with_reducible refine DrawLate.intro [] ?_)
          | (with_reducible refine Cls_and ?_ ?_)
          | (with_reducible exact Cls.self _ _)
          | (with_reducible refine Cls_same ?_)
          | (with_reducible refine Cls_in ?_ ?_)
          | (with_reducible refine Cls_fresh ?_ ?_)
          | (with_reducible refine And.intro (fun h => ?_) (fun h => ?_)) <;> (try (exfalso; omega))
          | (with_reducible refine And.intro (fun h => ?_) ?_) <;> (try (exfalso; omega))
          | ((with_reducible refine and_keep ?_ fun hk => ?_); omega)
          | (simp -dsimp -implicitDefEqProofs [*]))
        clear hw
        have G : ∀ i (h : i < Z.length), (Z.take (i + 1)).filter (fun w => sameSlot w y) = (Z.take i).filter (fun w => sameSlot w y) ++ if sameSlot Z[i] y then [Z[i]] else [] := fun i h => filter_snoc _ _ _ h
        have F : ∀ i (h : i < Z.length), (Z.take (i + 1)).filter (fun w => !sameSlot w y) = (Z.take i).filter (fun w => !sameSlot w y) ++ if !sameSlot Z[i] y then [Z[i]] else [] := fun i h => filter_snoc _ _ _ h
        have G0 : ∀ i, ((Z.take i).filter (fun w => sameSlot w y)).length ≤ 61 := fun i => by
          have := List.length_filter_le (fun w => sameSlot w y) (Z.take i)
          rw [List.length_take] at this
          omega
        have F0 : ∀ i, ((Z.take i).filter (fun w => !sameSlot w y)).length ≤ 61 := fun i => by
          have := List.length_filter_le (fun w => !sameSlot w y) (Z.take i)
          rw [List.length_take] at this
          omega
        refine xloop_view (slE2 Z R b m B y d t) (fun z => phS z.2 ++ (b, .arr T.apiEvent y.enc) :: st) (fun z => z.1 ≤ Z.length ∧ phI Z y ((b, .arr T.apiEvent y.enc) :: st) z.1 z.2) (fun z => Z.length - z.1) (if Z = [] then (0, none) else (0, some none)) ?_ ?_ ?_
        · split
          · rename_i h; subst h; simp [phI]
          · rename_i h
            have := List.length_pos_iff.2 h
            simp [phI]; omega
        · split
          · rename_i h; subst h
            have hR0 : R = [] := by rw [← hRZ]; rfl
            subst hR0
            refine View.ple (.refl _) ?_
            simp [slE2, ph, PLe.refl]
            exact PLe.nil1
          · exact View.weak (by simp [slE2, ph]) (.refl _)
        rintro ⟨i, z⟩ ⟨hi, hz⟩
        simp only at hi hz
        have hw := wrap_succ (n := i) (by omega)
        have hGi0 := G0 i
        generalize hk : ((Z.take i).filter (fun w => sameSlot w y)).length = k at *
        have hwm := wrap_succ (n := k) (by omega)
        rcases z with _ | _ | q
        · simp only [phI] at hz
          subst hz
          rw [List.take_of_length_le (Nat.le_refl _)] at hk
          rw [hk] at f4 f5
          simp only [slE2, ph, List.take_of_length_le (Nat.le_refl _), hk, phS, List.nil_append]
          clear F G F0 G0 hGi0 hwm f3 hk
          cases hcy : counts y d t with
          | true =>
            have h8 := f4 hcy
            subst h8
            clear f4 f5
            repeat' (first
              | (with_reducible refine Fresh.intro fun b hb => ?_) <;> (try simp -dsimp -implicitDefEqProofs [*] at hb)
              | (with_reducible refine Rets.xcall (same_l _ _ R R lR rfl _) ?_)
              | (with_reducible refine Rets.xsoft (same_l _ _ R R lR rfl _) ?_)
              | (with_reducible refine xlateCall_of (fun _ => same_l _ _ R R lR rfl _) ?_)
              | (with_reducible refine Rets.xcall (counts_spec ..) ?_)
              | (with_reducible refine Rets.xsoft (counts_spec ..) ?_)
              | (with_reducible refine xlateCall_of (fun _ => counts_spec ..) ?_)
              | (with_reducible refine Lit.imm ?_)
              | ((with_reducible refine Grow.intro ?_ fun b cap hb hc1 hc2 => ?_); omega) <;> (try simp -dsimp -implicitDefEqProofs [*] at hb)
              | (with_reducible refine DrawLate.intro [] ?_)
              | (with_reducible refine Cls_and ?_ ?_)
              | (with_reducible exact Cls.self _ _)
              | (with_reducible refine Cls_same ?_)
              | (with_reducible refine Cls_in ?_ ?_)
              | (with_reducible refine Cls_fresh ?_ ?_)
              | (with_reducible refine And.intro (fun h => ?_) (fun h => ?_)) <;> (try (exfalso; omega))
              | (with_reducible refine And.intro (fun h => ?_) ?_) <;> (try (exfalso; omega))
              | ((with_reducible refine and_keep ?_ fun hk => ?_); omega)
              | (simp -dsimp -implicitDefEqProofs [*]))
          | false =>
            have h8 := f5 hcy
            subst h8
            clear f4 f5
            repeat' (first
              | (with_reducible refine Fresh.intro fun b hb => ?_) <;> (try simp -dsimp -implicitDefEqProofs [*] at hb)
              | (with_reducible refine Rets.xcall (same_l _ _ R R lR rfl _) ?_)
              | (with_reducible refine Rets.xsoft (same_l _ _ R R lR rfl _) ?_)
              | (with_reducible refine xlateCall_of (fun _ => same_l _ _ R R lR rfl _) ?_)
              | (with_reducible refine Rets.xcall (counts_spec ..) ?_)
              | (with_reducible refine Rets.xsoft (counts_spec ..) ?_)
              | (with_reducible refine xlateCall_of (fun _ => counts_spec ..) ?_)
              | (with_reducible refine Lit.imm ?_)
              | ((with_reducible refine Grow.intro ?_ fun b cap hb hc1 hc2 => ?_); omega) <;> (try simp -dsimp -implicitDefEqProofs [*] at hb)
              | (with_reducible refine DrawLate.intro [] ?_)
              | (with_reducible refine Cls_and ?_ ?_)
              | (with_reducible exact Cls.self _ _)
              | (with_reducible refine Cls_same ?_)
              | (with_reducible refine Cls_in ?_ ?_)
              | (with_reducible refine Cls_fresh ?_ ?_)
              | (with_reducible refine And.intro (fun h => ?_) (fun h => ?_)) <;> (try (exfalso; omega))
              | (with_reducible refine And.intro (fun h => ?_) ?_) <;> (try (exfalso; omega))
              | ((with_reducible refine and_keep ?_ fun hk => ?_); omega)
              | (simp -dsimp -implicitDefEqProofs [*]))
        · obtain ⟨hi2, hF⟩ := hz
          simp only [slE2, ph, phS, List.nil_append, hk]
          have hFi := F i hi2
          have hGi := G i hi2
          rw [hF] at hFi
          clear F G F0 G0 hF f4 f5
          cases hsl : sameSlot Z[i] y
          · have hG2 : ((Z.take (i + 1)).filter (fun w => sameSlot w y)).length = k := by rw [hGi, List.length_append, hk]; simp [hsl]
            clear f3
            repeat' (first
              | (with_reducible refine Fresh.intro fun b hb => ?_) <;> (try simp -dsimp -implicitDefEqProofs [*] at hb)
              | (with_reducible refine Rets.xcall (slot_spec ..) ?_)
              | (with_reducible refine Rets.xsoft (slot_spec ..) ?_)
              | (with_reducible refine xlateCall_of (fun _ => slot_spec ..) ?_)
              | (with_reducible refine Lit.imm ?_)
              | ((with_reducible refine Grow.intro ?_ fun b cap hb hc1 hc2 => ?_); omega) <;> (try simp -dsimp -implicitDefEqProofs [*] at hb)
              | (with_reducible refine DrawLate.intro [] ?_)
              | (with_reducible refine Cls_and ?_ ?_)
              | (with_reducible exact Cls.self _ _)
              | (with_reducible refine Cls_same ?_)
              | (with_reducible refine Cls_in ?_ ?_)
              | (with_reducible refine Cls_fresh ?_ ?_)
              | (with_reducible refine And.intro (fun h => ?_) (fun h => ?_)) <;> (try (exfalso; omega))
              | (with_reducible refine And.intro (fun h => ?_) ?_) <;> (try (exfalso; omega))
              | ((with_reducible refine and_keep ?_ fun hk => ?_); omega)
              | (simp -dsimp -implicitDefEqProofs [*]))
            refine xappend_acc0 Event.row_len [Z[i]] (by simp) (by simp) (by omega) (by omega) fun a' ha' hl' hb' => ?_
            simp -dsimp -implicitDefEqProofs [*] at hb'
            have hl2 : a'.l = [Z[i]] := hl'
            have hF2 : (Z.take (i + 1)).filter (fun w => !sameSlot w y) = a'.l := by rw [hFi, hl2]; simp [hsl]
            clear hl' hFi hGi
            repeat' (first
              | (with_reducible refine Fresh.intro fun b hb => ?_) <;> (try simp -dsimp -implicitDefEqProofs [*] at hb)
              | (with_reducible refine Lit.imm ?_)
              | ((with_reducible refine Grow.intro ?_ fun b cap hb hc1 hc2 => ?_); omega) <;> (try simp -dsimp -implicitDefEqProofs [*] at hb)
              | (with_reducible refine DrawLate.intro [] ?_)
              | (with_reducible refine Cls_and ?_ ?_)
              | (with_reducible exact Cls.self _ _)
              | (with_reducible refine Cls_same ?_)
              | (with_reducible refine Cls_in ?_ ?_)
              | (with_reducible refine Cls_fresh ?_ ?_)
              | (with_reducible refine And.intro (fun h => ?_) (fun h => ?_)) <;> (try (exfalso; omega))
              | (with_reducible refine And.intro (fun h => ?_) ?_) <;> (try (exfalso; omega))
              | ((with_reducible refine and_keep ?_ fun hk => ?_); omega)
              | (simp -dsimp -implicitDefEqProofs [*]))
            by_cases he : i + 1 = Z.length
            · have hF3 := hF2
              rw [he, List.take_of_length_le (Nat.le_refl _), hRZ] at hF3
              refine Next.view (i + 1, none) ⟨by simp only; omega, he⟩ (by simp only; omega) (View.frz (b := a'.b) (o := .arr T.apiEvent a'.R) (by simp [phS, *]) (by repeat' (first | exact StLe.refl _ | (refine StLe_cons (by simp [*]; done) ?_) | (refine StLe_fresh (by simp [*]; done) ?_))) ?_)
              simp [slE2, ph, hG2, hF3, Frz.refl]
              rw [show 1 = a'.l.length by simp [hl2]]
              exact Frz.acc ha'
            · exact Next.intro (i + 1, some (some a')) ⟨by simp only; omega, by simp only [phI]; exact ⟨by omega, ha', by simp [*], hF2⟩⟩ (by simp only; omega) (by simp [slE2, ph, hG2, hl2]) (by simp only [phS, List.nil_append, List.cons_append]; exact (by repeat' (first | exact StLe.refl _ | (refine StLe_cons (by simp [*]; done) ?_) | (refine StLe_fresh (by simp [*]; done) ?_))))
          · have hF2 : (Z.take (i + 1)).filter (fun w => !sameSlot w y) = [] := by rw [hFi]; simp [hsl]
            have hG2 : ((Z.take (i + 1)).filter (fun w => sameSlot w y)).length = k + 1 := by rw [hGi, List.length_append, hk]; simp [hsl]
            have h7 := f3 _ (List.getElem_mem hi2) hsl
            have hyy : sameSlot y y = true := by simp [sameSlot]
            clear f3 hFi hGi
            by_cases hzy : Z[i] = y <;> cases B <;> cases hcy : counts y d t
            all_goals (first | (exfalso; simp [hzy, hcy] at h7; done) | skip)
            all_goals
              clear h7
              repeat' (first
                | (with_reducible refine Fresh.intro fun b hb => ?_) <;> (try simp -dsimp -implicitDefEqProofs [*] at hb)
                | (with_reducible refine Rets.xcall (slot_spec ..) ?_)
                | (with_reducible refine Rets.xsoft (slot_spec ..) ?_)
                | (with_reducible refine xlateCall_of (fun _ => slot_spec ..) ?_)
                | (with_reducible refine Rets.xcall (counts_spec ..) ?_)
                | (with_reducible refine Rets.xsoft (counts_spec ..) ?_)
                | (with_reducible refine xlateCall_of (fun _ => counts_spec ..) ?_)
                | (with_reducible refine Lit.imm ?_)
                | ((with_reducible refine Grow.intro ?_ fun b cap hb hc1 hc2 => ?_); omega) <;> (try simp -dsimp -implicitDefEqProofs [*] at hb)
                | (with_reducible refine DrawLate.intro [] ?_)
                | (with_reducible refine Cls_and ?_ ?_)
                | (with_reducible exact Cls.self _ _)
                | (with_reducible refine Cls_same ?_)
                | (with_reducible refine Cls_in ?_ ?_)
                | (with_reducible refine Cls_fresh ?_ ?_)
                | (with_reducible refine And.intro (fun h => ?_) (fun h => ?_)) <;> (try (exfalso; omega))
                | (with_reducible refine And.intro (fun h => ?_) ?_) <;> (try (exfalso; omega))
                | ((with_reducible refine and_keep ?_ fun hk => ?_); omega)
                | (simp -dsimp -implicitDefEqProofs [*]))
              by_cases he : i + 1 = Z.length
              · have hF3 := hF2
                rw [he, List.take_of_length_le (Nat.le_refl _), hRZ] at hF3
                refine Next.view (i + 1, none) ⟨by simp only; omega, he⟩ (by simp only; omega) (View.ple (by repeat' (first | exact StLe.refl _ | (refine StLe_cons (by simp [*]; done) ?_) | (refine StLe_fresh (by simp [*]; done) ?_))) ?_)
                simp [slE2, ph, hG2, hF3, PLe.refl]
                exact PLe.nil1
              · exact Next.intro (i + 1, some none) ⟨by simp only; omega, by simp only [phI]; exact ⟨by omega, hF2⟩⟩ (by simp only; omega) (by simp [slE2, ph, hG2]) (by simp only [phS, List.nil_append, List.cons_append]; exact (by repeat' (first | exact StLe.refl _ | (refine StLe_cons (by simp [*]; done) ?_) | (refine StLe_fresh (by simp [*]; done) ?_))))
        · obtain ⟨hi2, ha, hb, hF⟩ := hz
          simp only [snew_cons] at hb
          simp only [slE2, ph, phS, List.nil_append, List.cons_append, hk]
          have hFi := F i hi2
          have hGi := G i hi2
          have hal := F0 i
          rw [hF] at hFi hal
          clear F G F0 G0 hF f4 f5
          cases hsl : sameSlot Z[i] y
          · have hG2 : ((Z.take (i + 1)).filter (fun w => sameSlot w y)).length = k := by rw [hGi, List.length_append, hk]; simp [hsl]
            clear f3
            repeat' (first
              | (with_reducible refine Fresh.intro fun b hb => ?_) <;> (try simp -dsimp -implicitDefEqProofs [*] at hb)
              | (with_reducible refine Rets.xcall (slot_spec ..) ?_)
              | (with_reducible refine Rets.xsoft (slot_spec ..) ?_)
              | (with_reducible refine xlateCall_of (fun _ => slot_spec ..) ?_)
              | (with_reducible refine Lit.imm ?_)
              | ((with_reducible refine Grow.intro ?_ fun b cap hb hc1 hc2 => ?_); omega) <;> (try simp -dsimp -implicitDefEqProofs [*] at hb)
              | (with_reducible refine DrawLate.intro [] ?_)
              | (with_reducible refine Cls_and ?_ ?_)
              | (with_reducible exact Cls.self _ _)
              | (with_reducible refine Cls_same ?_)
              | (with_reducible refine Cls_in ?_ ?_)
              | (with_reducible refine Cls_fresh ?_ ?_)
              | (with_reducible refine And.intro (fun h => ?_) (fun h => ?_)) <;> (try (exfalso; omega))
              | (with_reducible refine And.intro (fun h => ?_) ?_) <;> (try (exfalso; omega))
              | ((with_reducible refine and_keep ?_ fun hk => ?_); omega)
              | (simp -dsimp -implicitDefEqProofs [*]))
            refine xappend_acc Event.row_len Event.row_append ha (by simp [*]) [Z[i]] (by simp) (by simp) (by omega) fun a' ha' hl' hb' => ?_
            simp -dsimp -implicitDefEqProofs [*] at hb'
            have hl2 : a'.l = q.l ++ [Z[i]] := hl'
            have hF2 : (Z.take (i + 1)).filter (fun w => !sameSlot w y) = a'.l := by rw [hFi, hl2]; simp [hsl]
            clear hl' hFi hGi
            repeat' (first
              | (with_reducible refine Fresh.intro fun b hb => ?_) <;> (try simp -dsimp -implicitDefEqProofs [*] at hb)
              | (with_reducible refine Lit.imm ?_)
              | ((with_reducible refine Grow.intro ?_ fun b cap hb hc1 hc2 => ?_); omega) <;> (try simp -dsimp -implicitDefEqProofs [*] at hb)
              | (with_reducible refine DrawLate.intro [] ?_)
              | (with_reducible refine Cls_and ?_ ?_)
              | (with_reducible exact Cls.self _ _)
              | (with_reducible refine Cls_same ?_)
              | (with_reducible refine Cls_in ?_ ?_)
              | (with_reducible refine Cls_fresh ?_ ?_)
              | (with_reducible refine And.intro (fun h => ?_) (fun h => ?_)) <;> (try (exfalso; omega))
              | (with_reducible refine And.intro (fun h => ?_) ?_) <;> (try (exfalso; omega))
              | ((with_reducible refine and_keep ?_ fun hk => ?_); omega)
              | (simp -dsimp -implicitDefEqProofs [*]))
            by_cases he : i + 1 = Z.length
            · have hF3 := hF2
              rw [he, List.take_of_length_le (Nat.le_refl _), hRZ] at hF3
              refine Next.view (i + 1, none) ⟨by simp only; omega, he⟩ (by simp only; omega) (View.frz (b := a'.b) (o := .arr T.apiEvent a'.R) (by simp [phS, *]) (by repeat' (first | exact StLe.refl _ | (refine StLe_cons (by simp [*]; done) ?_) | (refine StLe_fresh (by simp [*]; done) ?_))) ?_)
              simp [slE2, ph, hG2, hF3, Frz.refl]
              rw [show q.l.length + 1 = a'.l.length by simp [hl2]]
              exact Frz.acc ha'
            · exact Next.intro (i + 1, some (some a')) ⟨by simp only; omega, by simp only [phI]; exact ⟨by omega, ha', by simp [*], hF2⟩⟩ (by simp only; omega) (by simp [slE2, ph, hG2, hl2]) (by simp only [phS, List.nil_append, List.cons_append]; exact (by repeat' (first | exact StLe.refl _ | (refine StLe_cons (by simp [*]; done) ?_) | (refine StLe_fresh (by simp [*]; done) ?_))))
          · have hF2 : (Z.take (i + 1)).filter (fun w => !sameSlot w y) = q.l := by rw [hFi]; simp [hsl]
            have hG2 : ((Z.take (i + 1)).filter (fun w => sameSlot w y)).length = k + 1 := by rw [hGi, List.length_append, hk]; simp [hsl]
            have h7 := f3 _ (List.getElem_mem hi2) hsl
            have hyy : sameSlot y y = true := by simp [sameSlot]
            clear f3 hFi hGi
            by_cases hzy : Z[i] = y <;> cases B <;> cases hcy : counts y d t
            all_goals (first | (exfalso; simp [hzy, hcy] at h7; done) | skip)
            all_goals
              clear h7
              repeat' (first
                | (with_reducible refine Fresh.intro fun b hb => ?_) <;> (try simp -dsimp -implicitDefEqProofs [*] at hb)
                | (with_reducible refine Rets.xcall (slot_spec ..) ?_)
                | (with_reducible refine Rets.xsoft (slot_spec ..) ?_)
                | (with_reducible refine xlateCall_of (fun _ => slot_spec ..) ?_)
                | (with_reducible refine Rets.xcall (counts_spec ..) ?_)
                | (with_reducible refine Rets.xsoft (counts_spec ..) ?_)
                | (with_reducible refine xlateCall_of (fun _ => counts_spec ..) ?_)
                | (with_reducible refine Lit.imm ?_)
                | ((with_reducible refine Grow.intro ?_ fun b cap hb hc1 hc2 => ?_); omega) <;> (try simp -dsimp -implicitDefEqProofs [*] at hb)
                | (with_reducible refine DrawLate.intro [] ?_)
                | (with_reducible refine Cls_and ?_ ?_)
                | (with_reducible exact Cls.self _ _)
                | (with_reducible refine Cls_same ?_)
                | (with_reducible refine Cls_in ?_ ?_)
                | (with_reducible refine Cls_fresh ?_ ?_)
                | (with_reducible refine And.intro (fun h => ?_) (fun h => ?_)) <;> (try (exfalso; omega))
                | (with_reducible refine And.intro (fun h => ?_) ?_) <;> (try (exfalso; omega))
                | ((with_reducible refine and_keep ?_ fun hk => ?_); omega)
                | (simp -dsimp -implicitDefEqProofs [*]))
              by_cases he : i + 1 = Z.length
              · have hF3 := hF2
                rw [he, List.take_of_length_le (Nat.le_refl _), hRZ] at hF3
                refine Next.view (i + 1, none) ⟨by simp only; omega, he⟩ (by simp only; omega) (View.frz (b := q.b) (o := .arr T.apiEvent q.R) (by simp [phS, *]) (by repeat' (first | exact StLe.refl _ | (refine StLe_cons (by simp [*]; done) ?_) | (refine StLe_fresh (by simp [*]; done) ?_))) ?_)
                simp [slE2, ph, hG2, hF3, Frz.refl]
                exact Frz.acc ha
              · exact Next.intro (i + 1, some (some q)) ⟨by simp only; omega, by simp only [phI]; exact ⟨by omega, ha, by simp [*], hF2⟩⟩ (by simp only; omega) (by simp [slE2, ph, hG2]) (by simp only [phS, List.nil_append, List.cons_append]; exact (by repeat' (first | exact StLe.refl _ | (refine StLe_cons (by simp [*]; done) ?_) | (refine StLe_fresh (by simp [*]; done) ?_))))
      · obtain ⟨hi2, hF⟩ := hz
        simp only [slE1, ph, phS, List.nil_append, hm, hA]
        have hFi := F i hi2
        have hGi := G i hi2
        have hAi := A i hi2
        rw [hF] at hFi
        rw [hA] at hAi
        clear F G F0 G0 A hF f3 f4 f5
        cases hsl : sameSlot X[i] y
        · have hG2 : ((X.take (i + 1)).filter (fun w => sameSlot w y)).length = m := by rw [hGi, List.length_append, hm]; simp [hsl]
          simp only [hsl, Bool.false_and, Bool.or_false] at hAi
          repeat' (first
            | (with_reducible refine Fresh.intro fun b hb => ?_) <;> (try simp -dsimp -implicitDefEqProofs [*] at hb)
            | (with_reducible refine Rets.xcall (slot_spec ..) ?_)
            | (with_reducible refine Rets.xsoft (slot_spec ..) ?_)
            | (with_reducible refine xlateCall_of (fun _ => slot_spec ..) ?_)
            | (with_reducible refine Rets.xcall (later_spec ..) ?_)
            | (with_reducible refine Rets.xsoft (later_spec ..) ?_)
            | (with_reducible refine xlateCall_of (fun _ => later_spec ..) ?_)
            | (with_reducible refine Lit.imm ?_)
            | ((with_reducible refine Grow.intro ?_ fun b cap hb hc1 hc2 => ?_); omega) <;> (try simp -dsimp -implicitDefEqProofs [*] at hb)
            | (with_reducible refine DrawLate.intro [] ?_)
            | (with_reducible refine Cls_and ?_ ?_)
            | (with_reducible exact Cls.self _ _)
            | (with_reducible refine Cls_same ?_)
            | (with_reducible refine Cls_in ?_ ?_)
            | (with_reducible refine Cls_fresh ?_ ?_)
            | (with_reducible refine And.intro (fun h => ?_) (fun h => ?_)) <;> (try (exfalso; omega))
            | (with_reducible refine And.intro (fun h => ?_) ?_) <;> (try (exfalso; omega))
            | ((with_reducible refine and_keep ?_ fun hk => ?_); omega)
            | (simp -dsimp -implicitDefEqProofs [*]))
          refine xappend_acc0 Event.row_len [X[i]] (by simp) (by simp) (by omega) (by omega) fun a' ha' hl' hb' => ?_
          simp -dsimp -implicitDefEqProofs [*] at hb'
          have hl2 : a'.l = [X[i]] := hl'
          have hF2 : (X.take (i + 1)).filter (fun w => !sameSlot w y) = a'.l := by rw [hFi, hl2]; simp [hsl]
          clear hl' hFi hGi
          repeat' (first
            | (with_reducible refine Fresh.intro fun b hb => ?_) <;> (try simp -dsimp -implicitDefEqProofs [*] at hb)
            | (with_reducible refine Lit.imm ?_)
            | ((with_reducible refine Grow.intro ?_ fun b cap hb hc1 hc2 => ?_); omega) <;> (try simp -dsimp -implicitDefEqProofs [*] at hb)
            | (with_reducible refine DrawLate.intro [] ?_)
            | (with_reducible refine Cls_and ?_ ?_)
            | (with_reducible exact Cls.self _ _)
            | (with_reducible refine Cls_same ?_)
            | (with_reducible refine Cls_in ?_ ?_)
            | (with_reducible refine Cls_fresh ?_ ?_)
            | (with_reducible refine And.intro (fun h => ?_) (fun h => ?_)) <;> (try (exfalso; omega))
            | (with_reducible refine And.intro (fun h => ?_) ?_) <;> (try (exfalso; omega))
            | ((with_reducible refine and_keep ?_ fun hk => ?_); omega)
            | (simp -dsimp -implicitDefEqProofs [*]))
          by_cases he : i + 1 = X.length
          · have hF3 := hF2
            rw [he, List.take_of_length_le (Nat.le_refl _), hRR] at hF3
            refine Next.view (i + 1, none) ⟨by simp only; omega, he⟩ (by simp only; omega) (View.frz (b := a'.b) (o := .arr T.apiEvent a'.R) (by simp [phS, *]) (by repeat' (first | exact StLe.refl _ | (refine StLe_cons (by simp [*]; done) ?_) | (refine StLe_fresh (by simp [*]; done) ?_))) ?_)
            simp [slE1, ph, hG2, hAi, hF3, Frz.refl]
            rw [show 1 = a'.l.length by simp [hl2]]
            exact Frz.acc ha'
          · exact Next.intro (i + 1, some (some a')) ⟨by simp only; omega, by simp only [phI]; exact ⟨by omega, ha', by simp [*], hF2⟩⟩ (by simp only; omega) (by simp [slE1, ph, hG2, hAi, hl2]) (by simp only [phS, List.nil_append, List.cons_append]; exact (by repeat' (first | exact StLe.refl _ | (refine StLe_cons (by simp [*]; done) ?_) | (refine StLe_fresh (by simp [*]; done) ?_))))
        · have hF2 : (X.take (i + 1)).filter (fun w => !sameSlot w y) = [] := by rw [hFi]; simp [hsl]
          have hG2 : ((X.take (i + 1)).filter (fun w => sameSlot w y)).length = m + 1 := by rw [hGi, List.length_append, hm]; simp [hsl]
          cases hlt : later X[i] y <;> cases hB : B
          all_goals
            subst hB
            simp only [hsl, hlt, Bool.true_and, Bool.or_true, Bool.or_false] at hAi
            clear hFi hGi
            repeat' (first
              | (with_reducible refine Fresh.intro fun b hb => ?_) <;> (try simp -dsimp -implicitDefEqProofs [*] at hb)
              | (with_reducible refine Rets.xcall (slot_spec ..) ?_)
              | (with_reducible refine Rets.xsoft (slot_spec ..) ?_)
              | (with_reducible refine xlateCall_of (fun _ => slot_spec ..) ?_)
              | (with_reducible refine Rets.xcall (later_spec ..) ?_)
              | (with_reducible refine Rets.xsoft (later_spec ..) ?_)
              | (with_reducible refine xlateCall_of (fun _ => later_spec ..) ?_)
              | (with_reducible refine Lit.imm ?_)
              | ((with_reducible refine Grow.intro ?_ fun b cap hb hc1 hc2 => ?_); omega) <;> (try simp -dsimp -implicitDefEqProofs [*] at hb)
              | (with_reducible refine DrawLate.intro [] ?_)
              | (with_reducible refine Cls_and ?_ ?_)
              | (with_reducible exact Cls.self _ _)
              | (with_reducible refine Cls_same ?_)
              | (with_reducible refine Cls_in ?_ ?_)
              | (with_reducible refine Cls_fresh ?_ ?_)
              | (with_reducible refine And.intro (fun h => ?_) (fun h => ?_)) <;> (try (exfalso; omega))
              | (with_reducible refine And.intro (fun h => ?_) ?_) <;> (try (exfalso; omega))
              | ((with_reducible refine and_keep ?_ fun hk => ?_); omega)
              | (simp -dsimp -implicitDefEqProofs [*]))
            by_cases he : i + 1 = X.length
            · have hF3 := hF2
              rw [he, List.take_of_length_le (Nat.le_refl _), hRR] at hF3
              refine Next.view (i + 1, none) ⟨by simp only; omega, he⟩ (by simp only; omega) (View.ple (by repeat' (first | exact StLe.refl _ | (refine StLe_cons (by simp [*]; done) ?_) | (refine StLe_fresh (by simp [*]; done) ?_))) ?_)
              simp [slE1, ph, hG2, hAi, hF3, PLe.refl]
              exact PLe.nil1
            · exact Next.intro (i + 1, some none) ⟨by simp only; omega, by simp only [phI]; exact ⟨by omega, hF2⟩⟩ (by simp only; omega) (by simp [slE1, ph, hG2, hAi]) (by simp only [phS, List.nil_append, List.cons_append]; exact (by repeat' (first | exact StLe.refl _ | (refine StLe_cons (by simp [*]; done) ?_) | (refine StLe_fresh (by simp [*]; done) ?_))))
      · obtain ⟨hi2, ha, hb, hF⟩ := hz
        simp only [snew_cons] at hb
        simp only [slE1, ph, phS, List.nil_append, List.cons_append, hm, hA]
        have hFi := F i hi2
        have hGi := G i hi2
        have hAi := A i hi2
        have hal := F0 i
        rw [hF] at hFi hal
        rw [hA] at hAi
        clear F G F0 G0 A hF f3 f4 f5
        cases hsl : sameSlot X[i] y
        · have hG2 : ((X.take (i + 1)).filter (fun w => sameSlot w y)).length = m := by rw [hGi, List.length_append, hm]; simp [hsl]
          simp only [hsl, Bool.false_and, Bool.or_false] at hAi
          repeat' (first
            | (with_reducible refine Fresh.intro fun b hb => ?_) <;> (try simp -dsimp -implicitDefEqProofs [*] at hb)
            | (with_reducible refine Rets.xcall (slot_spec ..) ?_)
            | (with_reducible refine Rets.xsoft (slot_spec ..) ?_)
            | (with_reducible refine xlateCall_of (fun _ => slot_spec ..) ?_)
            | (with_reducible refine Rets.xcall (later_spec ..) ?_)
            | (with_reducible refine Rets.xsoft (later_spec ..) ?_)
            | (with_reducible refine xlateCall_of (fun _ => later_spec ..) ?_)
            | (with_reducible refine Lit.imm ?_)
            | ((with_reducible refine Grow.intro ?_ fun b cap hb hc1 hc2 => ?_); omega) <;> (try simp -dsimp -implicitDefEqProofs [*] at hb)
            | (with_reducible refine DrawLate.intro [] ?_)
            | (with_reducible refine Cls_and ?_ ?_)
            | (with_reducible exact Cls.self _ _)
            | (with_reducible refine Cls_same ?_)
            | (with_reducible refine Cls_in ?_ ?_)
            | (with_reducible refine Cls_fresh ?_ ?_)
            | (with_reducible refine And.intro (fun h => ?_) (fun h => ?_)) <;> (try (exfalso; omega))
            | (with_reducible refine And.intro (fun h => ?_) ?_) <;> (try (exfalso; omega))
            | ((with_reducible refine and_keep ?_ fun hk => ?_); omega)
            | (simp -dsimp -implicitDefEqProofs [*]))
          refine xappend_acc Event.row_len Event.row_append ha (by simp [*]) [X[i]] (by simp) (by simp) (by omega) fun a' ha' hl' hb' => ?_
          simp -dsimp -implicitDefEqProofs [*] at hb'
          have hl2 : a'.l = q.l ++ [X[i]] := hl'
          have hF2 : (X.take (i + 1)).filter (fun w => !sameSlot w y) = a'.l := by rw [hFi, hl2]; simp [hsl]
          clear hl' hFi hGi
          repeat' (first
            | (with_reducible refine Fresh.intro fun b hb => ?_) <;> (try simp -dsimp -implicitDefEqProofs [*] at hb)
            | (with_reducible refine Lit.imm ?_)
            | ((with_reducible refine Grow.intro ?_ fun b cap hb hc1 hc2 => ?_); omega) <;> (try simp -dsimp -implicitDefEqProofs [*] at hb)
            | (with_reducible refine DrawLate.intro [] ?_)
            | (with_reducible refine Cls_and ?_ ?_)
            | (with_reducible exact Cls.self _ _)
            | (with_reducible refine Cls_same ?_)
            | (with_reducible refine Cls_in ?_ ?_)
            | (with_reducible refine Cls_fresh ?_ ?_)
            | (with_reducible refine And.intro (fun h => ?_) (fun h => ?_)) <;> (try (exfalso; omega))
            | (with_reducible refine And.intro (fun h => ?_) ?_) <;> (try (exfalso; omega))
            | ((with_reducible refine and_keep ?_ fun hk => ?_); omega)
            | (simp -dsimp -implicitDefEqProofs [*]))
          by_cases he : i + 1 = X.length
          · have hF3 := hF2
            rw [he, List.take_of_length_le (Nat.le_refl _), hRR] at hF3
            refine Next.view (i + 1, none) ⟨by simp only; omega, he⟩ (by simp only; omega) (View.frz (b := a'.b) (o := .arr T.apiEvent a'.R) (by simp [phS, *]) (by repeat' (first | exact StLe.refl _ | (refine StLe_cons (by simp [*]; done) ?_) | (refine StLe_fresh (by simp [*]; done) ?_))) ?_)
            simp [slE1, ph, hG2, hAi, hF3, Frz.refl]
            rw [show q.l.length + 1 = a'.l.length by simp [hl2]]
            exact Frz.acc ha'
          · exact Next.intro (i + 1, some (some a')) ⟨by simp only; omega, by simp only [phI]; exact ⟨by omega, ha', by simp [*], hF2⟩⟩ (by simp only; omega) (by simp [slE1, ph, hG2, hAi, hl2]) (by simp only [phS, List.nil_append, List.cons_append]; exact (by repeat' (first | exact StLe.refl _ | (refine StLe_cons (by simp [*]; done) ?_) | (refine StLe_fresh (by simp [*]; done) ?_))))
        · have hF2 : (X.take (i + 1)).filter (fun w => !sameSlot w y) = q.l := by rw [hFi]; simp [hsl]
          have hG2 : ((X.take (i + 1)).filter (fun w => sameSlot w y)).length = m + 1 := by rw [hGi, List.length_append, hm]; simp [hsl]
          cases hlt : later X[i] y <;> cases hB : B
          all_goals
            subst hB
            simp only [hsl, hlt, Bool.true_and, Bool.or_true, Bool.or_false] at hAi
            clear hFi hGi
            repeat' (first
              | (with_reducible refine Fresh.intro fun b hb => ?_) <;> (try simp -dsimp -implicitDefEqProofs [*] at hb)
              | (with_reducible refine Rets.xcall (slot_spec ..) ?_)
              | (with_reducible refine Rets.xsoft (slot_spec ..) ?_)
              | (with_reducible refine xlateCall_of (fun _ => slot_spec ..) ?_)
              | (with_reducible refine Rets.xcall (later_spec ..) ?_)
              | (with_reducible refine Rets.xsoft (later_spec ..) ?_)
              | (with_reducible refine xlateCall_of (fun _ => later_spec ..) ?_)
              | (with_reducible refine Lit.imm ?_)
              | ((with_reducible refine Grow.intro ?_ fun b cap hb hc1 hc2 => ?_); omega) <;> (try simp -dsimp -implicitDefEqProofs [*] at hb)
              | (with_reducible refine DrawLate.intro [] ?_)
              | (with_reducible refine Cls_and ?_ ?_)
              | (with_reducible exact Cls.self _ _)
              | (with_reducible refine Cls_same ?_)
              | (with_reducible refine Cls_in ?_ ?_)
              | (with_reducible refine Cls_fresh ?_ ?_)
              | (with_reducible refine And.intro (fun h => ?_) (fun h => ?_)) <;> (try (exfalso; omega))
              | (with_reducible refine And.intro (fun h => ?_) ?_) <;> (try (exfalso; omega))
              | ((with_reducible refine and_keep ?_ fun hk => ?_); omega)
              | (simp -dsimp -implicitDefEqProofs [*]))
            by_cases he : i + 1 = X.length
            · have hF3 := hF2
              rw [he, List.take_of_length_le (Nat.le_refl _), hRR] at hF3
              refine Next.view (i + 1, none) ⟨by simp only; omega, he⟩ (by simp only; omega) (View.frz (b := q.b) (o := .arr T.apiEvent q.R) (by simp [phS, *]) (by repeat' (first | exact StLe.refl _ | (refine StLe_cons (by simp [*]; done) ?_) | (refine StLe_fresh (by simp [*]; done) ?_))) ?_)
              simp [slE1, ph, hG2, hAi, hF3, Frz.refl]
              exact Frz.acc ha
            · exact Next.intro (i + 1, some (some q)) ⟨by simp only; omega, by simp only [phI]; exact ⟨by omega, ha, by simp [*], hF2⟩⟩ (by simp only; omega) (by simp [slE1, ph, hG2, hAi]) (by simp only [phS, List.nil_append, List.cons_append]; exact (by repeat' (first | exact StLe.refl _ | (refine StLe_cons (by simp [*]; done) ?_) | (refine StLe_fresh (by simp [*]; done) ?_))))
    · repeat' (first
        | (with_reducible refine Fresh.intro fun b hb => ?_) <;> (try simp -dsimp -implicitDefEqProofs [*] at hb)
        | (with_reducible refine Rets.xcall (sane_spec _) ?_)
        | (with_reducible refine Rets.xsoft (sane_spec _) ?_)
        | (with_reducible refine xlateCall_of (fun _ => sane_spec _) ?_)
        | (with_reducible refine Rets.xcall (add_spec ..) ?_)
        | (with_reducible refine Rets.xsoft (add_spec ..) ?_)
        | (with_reducible refine xlateCall_of (fun _ => add_spec ..) ?_)
        | (with_reducible refine Rets.xcall (standing_spec ..) ?_)
        | (with_reducible refine Rets.xsoft (standing_spec ..) ?_)
        | (with_reducible refine xlateCall_of (fun _ => standing_spec ..) ?_)
        | (with_reducible refine Lit.imm ?_)
        | ((with_reducible refine Grow.intro ?_ fun b cap hb hc1 hc2 => ?_); omega) <;> (try simp -dsimp -implicitDefEqProofs [*] at hb)
        | (with_reducible refine DrawLate.intro [] ?_)
        | (with_reducible refine Cls_and ?_ ?_)
        | (with_reducible exact Cls.self _ _)
        | (with_reducible refine Cls_same ?_)
        | (with_reducible refine Cls_in ?_ ?_)
        | (with_reducible refine Cls_fresh ?_ ?_)
        | (with_reducible refine And.intro (fun h => ?_) (fun h => ?_)) <;> (try (exfalso; omega))
        | (with_reducible refine And.intro (fun h => ?_) ?_) <;> (try (exfalso; omega))
        | ((with_reducible refine and_keep ?_ fun hk => ?_); omega)
        | (simp -dsimp -implicitDefEqProofs [*]))
  · have hL : addL l y = [] := by simp [addL, hn]
    repeat' (first
      | (with_reducible refine Fresh.intro fun b hb => ?_) <;> (try simp -dsimp -implicitDefEqProofs [*] at hb)
      | (with_reducible refine Rets.xcall (sane_spec _) ?_)
      | (with_reducible refine Rets.xsoft (sane_spec _) ?_)
      | (with_reducible refine xlateCall_of (fun _ => sane_spec _) ?_)
      | (with_reducible refine Rets.xcall (add_spec ..) ?_)
      | (with_reducible refine Rets.xsoft (add_spec ..) ?_)
      | (with_reducible refine xlateCall_of (fun _ => add_spec ..) ?_)
      | (with_reducible refine Rets.xcall (standing_spec ..) ?_)
      | (with_reducible refine Rets.xsoft (standing_spec ..) ?_)
      | (with_reducible refine xlateCall_of (fun _ => standing_spec ..) ?_)
      | (with_reducible refine Lit.imm ?_)
      | ((with_reducible refine Grow.intro ?_ fun b cap hb hc1 hc2 => ?_); omega) <;> (try simp -dsimp -implicitDefEqProofs [*] at hb)
      | (with_reducible refine DrawLate.intro [] ?_)
      | (with_reducible refine Cls_and ?_ ?_)
      | (with_reducible exact Cls.self _ _)
      | (with_reducible refine Cls_same ?_)
      | (with_reducible refine Cls_in ?_ ?_)
      | (with_reducible refine Cls_fresh ?_ ?_)
      | (with_reducible refine And.intro (fun h => ?_) (fun h => ?_)) <;> (try (exfalso; omega))
      | (with_reducible refine And.intro (fun h => ?_) ?_) <;> (try (exfalso; omega))
      | ((with_reducible refine and_keep ?_ fun hk => ?_); omega)
      | (simp -dsimp -implicitDefEqProofs [*]))
end Go.Proofs.Ytahdhdgglbcagaa
