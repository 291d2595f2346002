/- ReviewsApart. -/
import Derived.Test.YtbjfmedpaohpnaaS44K
namespace Go.Proofs.Ytbjfmedpaohpnaa
open Go.Pv
set_option maxRecDepth 100000
set_option maxHeartbeats 4000000
theorem apart_open {l : List Review} {no f t : Int} (hn : openN l no f t = 0) {x : Review} (hx : x ∈ l) : ∃ j : Nat, idx (openL l no f t) x.no = j ∧ ∃ h : j < (openL l no f t).length, (openL l no f t)[j] = x :=
  idx_mem (openL_ok hn).2 ((mem_openL hn).2 (.inr hx))
theorem apart_close {l : List Review} {no t v : Int} (hn : closeN l no t v = 0) {x : Review} (hx : x ∈ l) : ∃ j : Nat, idx (closeL l no t v) x.no = j ∧ ∃ h : j < (closeL l no t v).length, x.no ≠ no → (closeL l no t v)[j] = x := by
  by_cases hno : x.no = no
  · obtain ⟨y, hy, hyn⟩ := closeL_own hn
    obtain ⟨j, h1, h2, h3⟩ := idx_mem (closeL_ok hn) hy
    exact ⟨j, by rw [hno, ← h1, hyn], h2, fun h => absurd hno h⟩
  · obtain ⟨j, h1, h2, h3⟩ := idx_mem (closeL_ok hn) (closeL_mem hn hx hno)
    exact ⟨j, h1, h2, fun _ => h3⟩
theorem apart_law (tt : Bool) (l : List Review) (hf : ∀ e ∈ l, fit e) (s : Step) (hv : I64 s.verdict) (before : Int) (st : Store) : Rets P F.podiumlaw44_ReviewsApart [Review.lst tt l, s.pv, .int before] st (.bool true) := by
  refine (H.podiumlaw44_ReviewsApart).pure hmix rfl rfl ?_
  by_cases hl : (30 : Int) < (l.length : Int)
  · repeat' (first
      | (with_reducible refine Fresh.intro fun b hb => ?_) <;> (try simp -dsimp -implicitDefEqProofs [*] at hb)
      | (with_reducible refine Rets.xcall (sane_spec _) ?_)
      | (with_reducible refine Rets.xsoft (sane_spec _) ?_)
      | (with_reducible refine xlateCall_of (fun _ => sane_spec _) ?_)
      | (with_reducible refine Lit.imm ?_)
      | ((with_reducible refine Grow.intro ?_ fun b cap hb hc1 hc2 => ?_); omega) <;> (try simp -dsimp -implicitDefEqProofs [*] at hb)
      | (with_reducible refine DrawLate.intro [] ?_)
      | (with_reducible refine Cls_and ?_ ?_)
      | (with_reducible exact Cls.self _ _)
      | (with_reducible refine Cls_same ?_)
      | (with_reducible refine Cls_in ?_ ?_)
      | (with_reducible refine Cls_fresh ?_ ?_)
      | (with_reducible refine And.intro (fun h => ?_) (fun h => ?_)) <;> (try (exfalso; omega))
      | (with_reducible refine And.intro (fun h => ?_) ?_) <;> (try (exfalso; omega))
      | ((with_reducible refine and_keep ?_ fun hk => ?_); omega)
      | (simp -dsimp -implicitDefEqProofs [*]))
  have hl9 : l.length ≤ 30 := by omega
  by_cases hc : checkE l = 0
  · have o1 := open_spec tt l hf s.no s.finding s.time
    have o2 := close_spec tt l hf s.no s.time s.verdict hv
    have fA : openN l s.no s.finding s.time = 0 → ∀ x ∈ l, _ := fun h x hx => apart_open h hx
    have fB : closeN l s.no s.time s.verdict = 0 → ∀ x ∈ l, _ := fun h x hx => apart_close h hx
    have lA := fun h => openL_length (l := l) (no := s.no) (f := s.finding) (t := s.time) h
    have lB := fun h => closeL_length (l := l) (no := s.no) (t := s.time) (v := s.verdict) h
    have lA2 := openL_len l s.no s.finding s.time
    have lB2 := closeL_len l s.no s.time s.verdict
    have fitB := closeL_fit hf s.no s.time hv
    have hbef : closeN l s.no s.time s.verdict = 0 → 0 ≤ before → before < s.time → _ := fun h h0 h1 => closeL_before h h0 h1
    generalize openL l s.no s.finding s.time = A at *
    generalize openN l s.no s.finding s.time = eN at *
    generalize closeL l s.no s.time s.verdict = B at *
    generalize closeN l s.no s.time s.verdict = fN at *
    have hA9 : A.length ≤ 100000 := by omega
    have hB9 : B.length ≤ 100000 := by omega
    repeat' (first
      | (with_reducible refine Fresh.intro fun b hb => ?_) <;> (try simp -dsimp -implicitDefEqProofs [*] at hb)
      | (with_reducible refine Rets.xcall (sane_spec _) ?_)
      | (with_reducible refine Rets.xsoft (sane_spec _) ?_)
      | (with_reducible refine xlateCall_of (fun _ => sane_spec _) ?_)
      | (with_reducible refine Rets.xcall (refCheck_spec ..) ?_)
      | (with_reducible refine Rets.xsoft (refCheck_spec ..) ?_)
      | (with_reducible refine xlateCall_of (fun _ => refCheck_spec ..) ?_)
      | (with_reducible refine Rets.xcall (o1 _) ?_)
      | (with_reducible refine Rets.xsoft (o1 _) ?_)
      | (with_reducible refine xlateCall_of (fun _ => o1 _) ?_)
      | (with_reducible refine Rets.xcall (o2 _) ?_)
      | (with_reducible refine Rets.xsoft (o2 _) ?_)
      | (with_reducible refine xlateCall_of (fun _ => o2 _) ?_)
      | (with_reducible refine Lit.imm ?_)
      | ((with_reducible refine Grow.intro ?_ fun b cap hb hc1 hc2 => ?_); omega) <;> (try simp -dsimp -implicitDefEqProofs [*] at hb)
      | (with_reducible refine DrawLate.intro [] ?_)
      | (with_reducible refine Cls_and ?_ ?_)
      | (with_reducible exact Cls.self _ _)
      | (with_reducible refine Cls_same ?_)
      | (with_reducible refine Cls_in ?_ ?_)
      | (with_reducible refine Cls_fresh ?_ ?_)
      | (with_reducible refine And.intro (fun h => ?_) (fun h => ?_)) <;> (try (exfalso; omega))
      | (with_reducible refine And.intro (fun h => ?_) ?_) <;> (try (exfalso; omega))
      | ((with_reducible refine and_keep ?_ fun hk => ?_); omega)
      | (simp -dsimp -implicitDefEqProofs [*]))
    refine xloop_for (fun i => [(0, Review.lst tt l), (2, .int before), (4, .ptr b 0), (6, .bool false), (7, Review.lst false A), (8, .int eN), (9, Review.lst false B), (10, .int fN), (52, Review.lst tt l), (53, .int l.length), (54, .int (i : Nat))])
      (fun _ => (b, .arr T.podiumlaw44Step s.enc) :: st) (fun i => i ≤ l.length) (fun i => l.length - i) 0 ?_ ?_ ?_ ?_
    · exact Nat.zero_le _
    · simp
    · simp
    clear o1 o2
    rintro i hi
    have hw := wrap_succ (n := i) (by omega)
    have hwl := wrap_succ (n := l.length) (by omega)
    by_cases hil : i < l.length
    · have fA' := fun h => fA h _ (List.getElem_mem hil)
      have fB' := fun h => fB h _ (List.getElem_mem hil)
      clear fA fB lA lB hbef lA2 lB2 hf
      by_cases he : eN = 0
      · obtain ⟨j, g1, g2, g3⟩ := fA' he
        clear fA'
        by_cases hff : fN = 0
        · obtain ⟨k, g4, g5, g6⟩ := fB' hff
          clear fB'
          by_cases hno : l[i].no = s.no
          · rw [hno] at g1 g4
            clear g6
            repeat' (first
              | (with_reducible refine Fresh.intro fun b hb => ?_) <;> (try simp -dsimp -implicitDefEqProofs [*] at hb)
              | (with_reducible refine Rets.xcall (refIndex_spec _ A _ hA9 _) ?_)
              | (with_reducible refine Rets.xsoft (refIndex_spec _ A _ hA9 _) ?_)
              | (with_reducible refine xlateCall_of (fun _ => refIndex_spec _ A _ hA9 _) ?_)
              | (with_reducible refine Rets.xcall (refIndex_spec _ B _ hB9 _) ?_)
              | (with_reducible refine Rets.xsoft (refIndex_spec _ B _ hB9 _) ?_)
              | (with_reducible refine xlateCall_of (fun _ => refIndex_spec _ B _ hB9 _) ?_)
              | (with_reducible refine Lit.imm ?_)
              | ((with_reducible refine Grow.intro ?_ fun b cap hb hc1 hc2 => ?_); omega) <;> (try simp -dsimp -implicitDefEqProofs [*] at hb)
              | (with_reducible refine DrawLate.intro [] ?_)
              | (with_reducible refine Cls_and ?_ ?_)
              | (with_reducible exact Cls.self _ _)
              | (with_reducible refine Cls_same ?_)
              | (with_reducible refine Cls_in ?_ ?_)
              | (with_reducible refine Cls_fresh ?_ ?_)
              | (with_reducible refine And.intro (fun h => ?_) (fun h => ?_)) <;> (try (exfalso; omega))
              | (with_reducible refine And.intro (fun h => ?_) ?_) <;> (try (exfalso; omega))
              | ((with_reducible refine and_keep ?_ fun hk => ?_); omega)
              | (simp -dsimp -implicitDefEqProofs [*]))
            all_goals exact Next.intro (i + 1) (by omega) (by omega) (by simp [*]) (by repeat' (first | exact StLe.refl _ | (refine StLe_cons (by simp [*]; done) ?_) | (refine StLe_fresh (by simp [*]; done) ?_)))
          · have g6 := g6 hno
            repeat' (first
              | (with_reducible refine Fresh.intro fun b hb => ?_) <;> (try simp -dsimp -implicitDefEqProofs [*] at hb)
              | (with_reducible refine Rets.xcall (refIndex_spec _ A _ hA9 _) ?_)
              | (with_reducible refine Rets.xsoft (refIndex_spec _ A _ hA9 _) ?_)
              | (with_reducible refine xlateCall_of (fun _ => refIndex_spec _ A _ hA9 _) ?_)
              | (with_reducible refine Rets.xcall (refIndex_spec _ B _ hB9 _) ?_)
              | (with_reducible refine Rets.xsoft (refIndex_spec _ B _ hB9 _) ?_)
              | (with_reducible refine xlateCall_of (fun _ => refIndex_spec _ B _ hB9 _) ?_)
              | (with_reducible refine Lit.imm ?_)
              | ((with_reducible refine Grow.intro ?_ fun b cap hb hc1 hc2 => ?_); omega) <;> (try simp -dsimp -implicitDefEqProofs [*] at hb)
              | (with_reducible refine DrawLate.intro [] ?_)
              | (with_reducible refine Cls_and ?_ ?_)
              | (with_reducible exact Cls.self _ _)
              | (with_reducible refine Cls_same ?_)
              | (with_reducible refine Cls_in ?_ ?_)
              | (with_reducible refine Cls_fresh ?_ ?_)
              | (with_reducible refine And.intro (fun h => ?_) (fun h => ?_)) <;> (try (exfalso; omega))
              | (with_reducible refine And.intro (fun h => ?_) ?_) <;> (try (exfalso; omega))
              | ((with_reducible refine and_keep ?_ fun hk => ?_); omega)
              | (simp -dsimp -implicitDefEqProofs [*]))
            all_goals exact Next.intro (i + 1) (by omega) (by omega) (by simp [*]) (by repeat' (first | exact StLe.refl _ | (refine StLe_cons (by simp [*]; done) ?_) | (refine StLe_fresh (by simp [*]; done) ?_)))
        · clear fB'
          repeat' (first
            | (with_reducible refine Fresh.intro fun b hb => ?_) <;> (try simp -dsimp -implicitDefEqProofs [*] at hb)
            | (with_reducible refine Rets.xcall (refIndex_spec _ A _ hA9 _) ?_)
            | (with_reducible refine Rets.xsoft (refIndex_spec _ A _ hA9 _) ?_)
            | (with_reducible refine xlateCall_of (fun _ => refIndex_spec _ A _ hA9 _) ?_)
            | (with_reducible refine Rets.xcall (refIndex_spec _ B _ hB9 _) ?_)
            | (with_reducible refine Rets.xsoft (refIndex_spec _ B _ hB9 _) ?_)
            | (with_reducible refine xlateCall_of (fun _ => refIndex_spec _ B _ hB9 _) ?_)
            | (with_reducible refine Lit.imm ?_)
            | ((with_reducible refine Grow.intro ?_ fun b cap hb hc1 hc2 => ?_); omega) <;> (try simp -dsimp -implicitDefEqProofs [*] at hb)
            | (with_reducible refine DrawLate.intro [] ?_)
            | (with_reducible refine Cls_and ?_ ?_)
            | (with_reducible exact Cls.self _ _)
            | (with_reducible refine Cls_same ?_)
            | (with_reducible refine Cls_in ?_ ?_)
            | (with_reducible refine Cls_fresh ?_ ?_)
            | (with_reducible refine And.intro (fun h => ?_) (fun h => ?_)) <;> (try (exfalso; omega))
            | (with_reducible refine And.intro (fun h => ?_) ?_) <;> (try (exfalso; omega))
            | ((with_reducible refine and_keep ?_ fun hk => ?_); omega)
            | (simp -dsimp -implicitDefEqProofs [*]))
          all_goals exact Next.intro (i + 1) (by omega) (by omega) (by simp [*]) (by repeat' (first | exact StLe.refl _ | (refine StLe_cons (by simp [*]; done) ?_) | (refine StLe_fresh (by simp [*]; done) ?_)))
      · clear fA'
        by_cases hff : fN = 0
        · obtain ⟨k, g4, g5, g6⟩ := fB' hff
          clear fB'
          by_cases hno : l[i].no = s.no
          · rw [hno] at g4
            clear g6
            repeat' (first
              | (with_reducible refine Fresh.intro fun b hb => ?_) <;> (try simp -dsimp -implicitDefEqProofs [*] at hb)
              | (with_reducible refine Rets.xcall (refIndex_spec _ A _ hA9 _) ?_)
              | (with_reducible refine Rets.xsoft (refIndex_spec _ A _ hA9 _) ?_)
              | (with_reducible refine xlateCall_of (fun _ => refIndex_spec _ A _ hA9 _) ?_)
              | (with_reducible refine Rets.xcall (refIndex_spec _ B _ hB9 _) ?_)
              | (with_reducible refine Rets.xsoft (refIndex_spec _ B _ hB9 _) ?_)
              | (with_reducible refine xlateCall_of (fun _ => refIndex_spec _ B _ hB9 _) ?_)
              | (with_reducible refine Lit.imm ?_)
              | ((with_reducible refine Grow.intro ?_ fun b cap hb hc1 hc2 => ?_); omega) <;> (try simp -dsimp -implicitDefEqProofs [*] at hb)
              | (with_reducible refine DrawLate.intro [] ?_)
              | (with_reducible refine Cls_and ?_ ?_)
              | (with_reducible exact Cls.self _ _)
              | (with_reducible refine Cls_same ?_)
              | (with_reducible refine Cls_in ?_ ?_)
              | (with_reducible refine Cls_fresh ?_ ?_)
              | (with_reducible refine And.intro (fun h => ?_) (fun h => ?_)) <;> (try (exfalso; omega))
              | (with_reducible refine And.intro (fun h => ?_) ?_) <;> (try (exfalso; omega))
              | ((with_reducible refine and_keep ?_ fun hk => ?_); omega)
              | (simp -dsimp -implicitDefEqProofs [*]))
            all_goals exact Next.intro (i + 1) (by omega) (by omega) (by simp [*]) (by repeat' (first | exact StLe.refl _ | (refine StLe_cons (by simp [*]; done) ?_) | (refine StLe_fresh (by simp [*]; done) ?_)))
          · have g6 := g6 hno
            repeat' (first
              | (with_reducible refine Fresh.intro fun b hb => ?_) <;> (try simp -dsimp -implicitDefEqProofs [*] at hb)
              | (with_reducible refine Rets.xcall (refIndex_spec _ A _ hA9 _) ?_)
              | (with_reducible refine Rets.xsoft (refIndex_spec _ A _ hA9 _) ?_)
              | (with_reducible refine xlateCall_of (fun _ => refIndex_spec _ A _ hA9 _) ?_)
              | (with_reducible refine Rets.xcall (refIndex_spec _ B _ hB9 _) ?_)
              | (with_reducible refine Rets.xsoft (refIndex_spec _ B _ hB9 _) ?_)
              | (with_reducible refine xlateCall_of (fun _ => refIndex_spec _ B _ hB9 _) ?_)
              | (with_reducible refine Lit.imm ?_)
              | ((with_reducible refine Grow.intro ?_ fun b cap hb hc1 hc2 => ?_); omega) <;> (try simp -dsimp -implicitDefEqProofs [*] at hb)
              | (with_reducible refine DrawLate.intro [] ?_)
              | (with_reducible refine Cls_and ?_ ?_)
              | (with_reducible exact Cls.self _ _)
              | (with_reducible refine Cls_same ?_)
              | (with_reducible refine Cls_in ?_ ?_)
              | (with_reducible refine Cls_fresh ?_ ?_)
              | (with_reducible refine And.intro (fun h => ?_) (fun h => ?_)) <;> (try (exfalso; omega))
              | (with_reducible refine And.intro (fun h => ?_) ?_) <;> (try (exfalso; omega))
              | ((with_reducible refine and_keep ?_ fun hk => ?_); omega)
              | (simp -dsimp -implicitDefEqProofs [*]))
            all_goals exact Next.intro (i + 1) (by omega) (by omega) (by simp [*]) (by repeat' (first | exact StLe.refl _ | (refine StLe_cons (by simp [*]; done) ?_) | (refine StLe_fresh (by simp [*]; done) ?_)))
        · clear fB'
          repeat' (first
            | (with_reducible refine Fresh.intro fun b hb => ?_) <;> (try simp -dsimp -implicitDefEqProofs [*] at hb)
            | (with_reducible refine Rets.xcall (refIndex_spec _ A _ hA9 _) ?_)
            | (with_reducible refine Rets.xsoft (refIndex_spec _ A _ hA9 _) ?_)
            | (with_reducible refine xlateCall_of (fun _ => refIndex_spec _ A _ hA9 _) ?_)
            | (with_reducible refine Rets.xcall (refIndex_spec _ B _ hB9 _) ?_)
            | (with_reducible refine Rets.xsoft (refIndex_spec _ B _ hB9 _) ?_)
            | (with_reducible refine xlateCall_of (fun _ => refIndex_spec _ B _ hB9 _) ?_)
            | (with_reducible refine Lit.imm ?_)
            | ((with_reducible refine Grow.intro ?_ fun b cap hb hc1 hc2 => ?_); omega) <;> (try simp -dsimp -implicitDefEqProofs [*] at hb)
            | (with_reducible refine DrawLate.intro [] ?_)
            | (with_reducible refine Cls_and ?_ ?_)
            | (with_reducible exact Cls.self _ _)
            | (with_reducible refine Cls_same ?_)
            | (with_reducible refine Cls_in ?_ ?_)
            | (with_reducible refine Cls_fresh ?_ ?_)
            | (with_reducible refine And.intro (fun h => ?_) (fun h => ?_)) <;> (try (exfalso; omega))
            | (with_reducible refine And.intro (fun h => ?_) ?_) <;> (try (exfalso; omega))
            | ((with_reducible refine and_keep ?_ fun hk => ?_); omega)
            | (simp -dsimp -implicitDefEqProofs [*]))
          all_goals exact Next.intro (i + 1) (by omega) (by omega) (by simp [*]) (by repeat' (first | exact StLe.refl _ | (refine StLe_cons (by simp [*]; done) ?_) | (refine StLe_fresh (by simp [*]; done) ?_)))
    · have hle : l.length ≤ i := by omega
      clear fA fB
      by_cases hff : fN = 0
      · have lB' := lB hff
        by_cases hb0 : 0 ≤ before
        · by_cases hb1 : before < s.time
          · obtain ⟨h1, h2, h3⟩ := hbef hff hb0 hb1
            have s1 := standing_spec tt l hf before
            have s2 := standing_spec false B fitB before
            rw [h3] at s1
            rw [h2] at s2
            have hlen : (standL B before).length = (standL l before).length := by simpa using congrArg List.length h1
            have hX9 : (standL l before).length ≤ l.length := standL_len _ _
            have hno : ∀ i (h : i < (standL l before).length) (h' : i < (standL B before).length), (standL B before)[i].no = (standL l before)[i].no := fun i h h' => by
              have := congrArg (·[i]?) h1
              simpa [h, h'] using this
            clear h1 h2 h3 hbef lB hf fitB
            generalize standL l before = X at *
            generalize standL B before = Y at *
            by_cases he : eN = 0
            · have lA' := lA he
              clear lA
              repeat' (first
                | (with_reducible refine Fresh.intro fun b hb => ?_) <;> (try simp -dsimp -implicitDefEqProofs [*] at hb)
                | (with_reducible refine Rets.xcall (s1 _) ?_)
                | (with_reducible refine Rets.xsoft (s1 _) ?_)
                | (with_reducible refine xlateCall_of (fun _ => s1 _) ?_)
                | (with_reducible refine Rets.xcall (s2 _) ?_)
                | (with_reducible refine Rets.xsoft (s2 _) ?_)
                | (with_reducible refine xlateCall_of (fun _ => s2 _) ?_)
                | (with_reducible refine Lit.imm ?_)
                | ((with_reducible refine Grow.intro ?_ fun b cap hb hc1 hc2 => ?_); omega) <;> (try simp -dsimp -implicitDefEqProofs [*] at hb)
                | (with_reducible refine DrawLate.intro [] ?_)
                | (with_reducible refine Cls_and ?_ ?_)
                | (with_reducible exact Cls.self _ _)
                | (with_reducible refine Cls_same ?_)
                | (with_reducible refine Cls_in ?_ ?_)
                | (with_reducible refine Cls_fresh ?_ ?_)
                | (with_reducible refine And.intro (fun h => ?_) (fun h => ?_)) <;> (try (exfalso; omega))
                | (with_reducible refine And.intro (fun h => ?_) ?_) <;> (try (exfalso; omega))
                | ((with_reducible refine and_keep ?_ fun hk => ?_); omega)
                | (simp -dsimp -implicitDefEqProofs [*]))
              refine xloop_for (fun i => [(6, .bool false), (15, Review.lst false X), (17, Review.lst false Y), (163, .int X.length), (164, .int (i : Nat))]) (fun _ => (b, .arr T.podiumlaw44Step s.enc) :: st) (fun i => i ≤ X.length) (fun i => X.length - i) 0 (Nat.zero_le _) (by simp) (by simp) ?_
              rintro i hi
              have hw := wrap_succ (n := i) (by omega)
              clear s1 s2
              by_cases hiX : i < X.length
              · have hiY : i < Y.length := by omega
                have hn := hno i hiX hiY
                repeat' (first
                  | (with_reducible refine Fresh.intro fun b hb => ?_) <;> (try simp -dsimp -implicitDefEqProofs [*] at hb)
                  | (with_reducible refine Lit.imm ?_)
                  | ((with_reducible refine Grow.intro ?_ fun b cap hb hc1 hc2 => ?_); omega) <;> (try simp -dsimp -implicitDefEqProofs [*] at hb)
                  | (with_reducible refine DrawLate.intro [] ?_)
                  | (with_reducible refine Cls_and ?_ ?_)
                  | (with_reducible exact Cls.self _ _)
                  | (with_reducible refine Cls_same ?_)
                  | (with_reducible refine Cls_in ?_ ?_)
                  | (with_reducible refine Cls_fresh ?_ ?_)
                  | (with_reducible refine And.intro (fun h => ?_) (fun h => ?_)) <;> (try (exfalso; omega))
                  | (with_reducible refine And.intro (fun h => ?_) ?_) <;> (try (exfalso; omega))
                  | ((with_reducible refine and_keep ?_ fun hk => ?_); omega)
                  | (simp -dsimp -implicitDefEqProofs [*]))
                exact Next.intro (i + 1) (by omega) (by omega) (by simp [*]) (by repeat' (first | exact StLe.refl _ | (refine StLe_cons (by simp [*]; done) ?_) | (refine StLe_fresh (by simp [*]; done) ?_)))
              · repeat' (first
                  | (with_reducible refine Fresh.intro fun b hb => ?_) <;> (try simp -dsimp -implicitDefEqProofs [*] at hb)
                  | (with_reducible refine Lit.imm ?_)
                  | ((with_reducible refine Grow.intro ?_ fun b cap hb hc1 hc2 => ?_); omega) <;> (try simp -dsimp -implicitDefEqProofs [*] at hb)
                  | (with_reducible refine DrawLate.intro [] ?_)
                  | (with_reducible refine Cls_and ?_ ?_)
                  | (with_reducible exact Cls.self _ _)
                  | (with_reducible refine Cls_same ?_)
                  | (with_reducible refine Cls_in ?_ ?_)
                  | (with_reducible refine Cls_fresh ?_ ?_)
                  | (with_reducible refine And.intro (fun h => ?_) (fun h => ?_)) <;> (try (exfalso; omega))
                  | (with_reducible refine And.intro (fun h => ?_) ?_) <;> (try (exfalso; omega))
                  | ((with_reducible refine and_keep ?_ fun hk => ?_); omega)
                  | (simp -dsimp -implicitDefEqProofs [*]))
            · clear lA
              repeat' (first
                | (with_reducible refine Fresh.intro fun b hb => ?_) <;> (try simp -dsimp -implicitDefEqProofs [*] at hb)
                | (with_reducible refine Rets.xcall (s1 _) ?_)
                | (with_reducible refine Rets.xsoft (s1 _) ?_)
                | (with_reducible refine xlateCall_of (fun _ => s1 _) ?_)
                | (with_reducible refine Rets.xcall (s2 _) ?_)
                | (with_reducible refine Rets.xsoft (s2 _) ?_)
                | (with_reducible refine xlateCall_of (fun _ => s2 _) ?_)
                | (with_reducible refine Lit.imm ?_)
                | ((with_reducible refine Grow.intro ?_ fun b cap hb hc1 hc2 => ?_); omega) <;> (try simp -dsimp -implicitDefEqProofs [*] at hb)
                | (with_reducible refine DrawLate.intro [] ?_)
                | (with_reducible refine Cls_and ?_ ?_)
                | (with_reducible exact Cls.self _ _)
                | (with_reducible refine Cls_same ?_)
                | (with_reducible refine Cls_in ?_ ?_)
                | (with_reducible refine Cls_fresh ?_ ?_)
                | (with_reducible refine And.intro (fun h => ?_) (fun h => ?_)) <;> (try (exfalso; omega))
                | (with_reducible refine And.intro (fun h => ?_) ?_) <;> (try (exfalso; omega))
                | ((with_reducible refine and_keep ?_ fun hk => ?_); omega)
                | (simp -dsimp -implicitDefEqProofs [*]))
              refine xloop_for (fun i => [(6, .bool false), (15, Review.lst false X), (17, Review.lst false Y), (163, .int X.length), (164, .int (i : Nat))]) (fun _ => (b, .arr T.podiumlaw44Step s.enc) :: st) (fun i => i ≤ X.length) (fun i => X.length - i) 0 (Nat.zero_le _) (by simp) (by simp) ?_
              rintro i hi
              have hw := wrap_succ (n := i) (by omega)
              clear s1 s2
              by_cases hiX : i < X.length
              · have hiY : i < Y.length := by omega
                have hn := hno i hiX hiY
                repeat' (first
                  | (with_reducible refine Fresh.intro fun b hb => ?_) <;> (try simp -dsimp -implicitDefEqProofs [*] at hb)
                  | (with_reducible refine Lit.imm ?_)
                  | ((with_reducible refine Grow.intro ?_ fun b cap hb hc1 hc2 => ?_); omega) <;> (try simp -dsimp -implicitDefEqProofs [*] at hb)
                  | (with_reducible refine DrawLate.intro [] ?_)
                  | (with_reducible refine Cls_and ?_ ?_)
                  | (with_reducible exact Cls.self _ _)
                  | (with_reducible refine Cls_same ?_)
                  | (with_reducible refine Cls_in ?_ ?_)
                  | (with_reducible refine Cls_fresh ?_ ?_)
                  | (with_reducible refine And.intro (fun h => ?_) (fun h => ?_)) <;> (try (exfalso; omega))
                  | (with_reducible refine And.intro (fun h => ?_) ?_) <;> (try (exfalso; omega))
                  | ((with_reducible refine and_keep ?_ fun hk => ?_); omega)
                  | (simp -dsimp -implicitDefEqProofs [*]))
                exact Next.intro (i + 1) (by omega) (by omega) (by simp [*]) (by repeat' (first | exact StLe.refl _ | (refine StLe_cons (by simp [*]; done) ?_) | (refine StLe_fresh (by simp [*]; done) ?_)))
              · repeat' (first
                  | (with_reducible refine Fresh.intro fun b hb => ?_) <;> (try simp -dsimp -implicitDefEqProofs [*] at hb)
                  | (with_reducible refine Lit.imm ?_)
                  | ((with_reducible refine Grow.intro ?_ fun b cap hb hc1 hc2 => ?_); omega) <;> (try simp -dsimp -implicitDefEqProofs [*] at hb)
                  | (with_reducible refine DrawLate.intro [] ?_)
                  | (with_reducible refine Cls_and ?_ ?_)
                  | (with_reducible exact Cls.self _ _)
                  | (with_reducible refine Cls_same ?_)
                  | (with_reducible refine Cls_in ?_ ?_)
                  | (with_reducible refine Cls_fresh ?_ ?_)
                  | (with_reducible refine And.intro (fun h => ?_) (fun h => ?_)) <;> (try (exfalso; omega))
                  | (with_reducible refine And.intro (fun h => ?_) ?_) <;> (try (exfalso; omega))
                  | ((with_reducible refine and_keep ?_ fun hk => ?_); omega)
                  | (simp -dsimp -implicitDefEqProofs [*]))
          · clear hbef lB hf fitB
            by_cases he : eN = 0
            · have lA' := lA he
              clear lA
              repeat' (first
                | (with_reducible refine Fresh.intro fun b hb => ?_) <;> (try simp -dsimp -implicitDefEqProofs [*] at hb)
                | (with_reducible refine Lit.imm ?_)
                | ((with_reducible refine Grow.intro ?_ fun b cap hb hc1 hc2 => ?_); omega) <;> (try simp -dsimp -implicitDefEqProofs [*] at hb)
                | (with_reducible refine DrawLate.intro [] ?_)
                | (with_reducible refine Cls_and ?_ ?_)
                | (with_reducible exact Cls.self _ _)
                | (with_reducible refine Cls_same ?_)
                | (with_reducible refine Cls_in ?_ ?_)
                | (with_reducible refine Cls_fresh ?_ ?_)
                | (with_reducible refine And.intro (fun h => ?_) (fun h => ?_)) <;> (try (exfalso; omega))
                | (with_reducible refine And.intro (fun h => ?_) ?_) <;> (try (exfalso; omega))
                | ((with_reducible refine and_keep ?_ fun hk => ?_); omega)
                | (simp -dsimp -implicitDefEqProofs [*]))
            · clear lA
              repeat' (first
                | (with_reducible refine Fresh.intro fun b hb => ?_) <;> (try simp -dsimp -implicitDefEqProofs [*] at hb)
                | (with_reducible refine Lit.imm ?_)
                | ((with_reducible refine Grow.intro ?_ fun b cap hb hc1 hc2 => ?_); omega) <;> (try simp -dsimp -implicitDefEqProofs [*] at hb)
                | (with_reducible refine DrawLate.intro [] ?_)
                | (with_reducible refine Cls_and ?_ ?_)
                | (with_reducible exact Cls.self _ _)
                | (with_reducible refine Cls_same ?_)
                | (with_reducible refine Cls_in ?_ ?_)
                | (with_reducible refine Cls_fresh ?_ ?_)
                | (with_reducible refine And.intro (fun h => ?_) (fun h => ?_)) <;> (try (exfalso; omega))
                | (with_reducible refine And.intro (fun h => ?_) ?_) <;> (try (exfalso; omega))
                | ((with_reducible refine and_keep ?_ fun hk => ?_); omega)
                | (simp -dsimp -implicitDefEqProofs [*]))
        · clear hbef lB hf fitB
          by_cases he : eN = 0
          · have lA' := lA he
            clear lA
            repeat' (first
              | (with_reducible refine Fresh.intro fun b hb => ?_) <;> (try simp -dsimp -implicitDefEqProofs [*] at hb)
              | (with_reducible refine Lit.imm ?_)
              | ((with_reducible refine Grow.intro ?_ fun b cap hb hc1 hc2 => ?_); omega) <;> (try simp -dsimp -implicitDefEqProofs [*] at hb)
              | (with_reducible refine DrawLate.intro [] ?_)
              | (with_reducible refine Cls_and ?_ ?_)
              | (with_reducible exact Cls.self _ _)
              | (with_reducible refine Cls_same ?_)
              | (with_reducible refine Cls_in ?_ ?_)
              | (with_reducible refine Cls_fresh ?_ ?_)
              | (with_reducible refine And.intro (fun h => ?_) (fun h => ?_)) <;> (try (exfalso; omega))
              | (with_reducible refine And.intro (fun h => ?_) ?_) <;> (try (exfalso; omega))
              | ((with_reducible refine and_keep ?_ fun hk => ?_); omega)
              | (simp -dsimp -implicitDefEqProofs [*]))
          · clear lA
            repeat' (first
              | (with_reducible refine Fresh.intro fun b hb => ?_) <;> (try simp -dsimp -implicitDefEqProofs [*] at hb)
              | (with_reducible refine Lit.imm ?_)
              | ((with_reducible refine Grow.intro ?_ fun b cap hb hc1 hc2 => ?_); omega) <;> (try simp -dsimp -implicitDefEqProofs [*] at hb)
              | (with_reducible refine DrawLate.intro [] ?_)
              | (with_reducible refine Cls_and ?_ ?_)
              | (with_reducible exact Cls.self _ _)
              | (with_reducible refine Cls_same ?_)
              | (with_reducible refine Cls_in ?_ ?_)
              | (with_reducible refine Cls_fresh ?_ ?_)
              | (with_reducible refine And.intro (fun h => ?_) (fun h => ?_)) <;> (try (exfalso; omega))
              | (with_reducible refine And.intro (fun h => ?_) ?_) <;> (try (exfalso; omega))
              | ((with_reducible refine and_keep ?_ fun hk => ?_); omega)
              | (simp -dsimp -implicitDefEqProofs [*]))
      · clear hbef lB hf fitB
        by_cases he : eN = 0
        · have lA' := lA he
          clear lA
          repeat' (first
            | (with_reducible refine Fresh.intro fun b hb => ?_) <;> (try simp -dsimp -implicitDefEqProofs [*] at hb)
            | (with_reducible refine Lit.imm ?_)
            | ((with_reducible refine Grow.intro ?_ fun b cap hb hc1 hc2 => ?_); omega) <;> (try simp -dsimp -implicitDefEqProofs [*] at hb)
            | (with_reducible refine DrawLate.intro [] ?_)
            | (with_reducible refine Cls_and ?_ ?_)
            | (with_reducible exact Cls.self _ _)
            | (with_reducible refine Cls_same ?_)
            | (with_reducible refine Cls_in ?_ ?_)
            | (with_reducible refine Cls_fresh ?_ ?_)
            | (with_reducible refine And.intro (fun h => ?_) (fun h => ?_)) <;> (try (exfalso; omega))
            | (with_reducible refine And.intro (fun h => ?_) ?_) <;> (try (exfalso; omega))
            | ((with_reducible refine and_keep ?_ fun hk => ?_); omega)
            | (simp -dsimp -implicitDefEqProofs [*]))
        · clear lA
          repeat' (first
            | (with_reducible refine Fresh.intro fun b hb => ?_) <;> (try simp -dsimp -implicitDefEqProofs [*] at hb)
            | (with_reducible refine Lit.imm ?_)
            | ((with_reducible refine Grow.intro ?_ fun b cap hb hc1 hc2 => ?_); omega) <;> (try simp -dsimp -implicitDefEqProofs [*] at hb)
            | (with_reducible refine DrawLate.intro [] ?_)
            | (with_reducible refine Cls_and ?_ ?_)
            | (with_reducible exact Cls.self _ _)
            | (with_reducible refine Cls_same ?_)
            | (with_reducible refine Cls_in ?_ ?_)
            | (with_reducible refine Cls_fresh ?_ ?_)
            | (with_reducible refine And.intro (fun h => ?_) (fun h => ?_)) <;> (try (exfalso; omega))
            | (with_reducible refine And.intro (fun h => ?_) ?_) <;> (try (exfalso; omega))
            | ((with_reducible refine and_keep ?_ fun hk => ?_); omega)
            | (simp -dsimp -implicitDefEqProofs [*]))
  · repeat' (first
      | (with_reducible refine Fresh.intro fun b hb => ?_) <;> (try simp -dsimp -implicitDefEqProofs [*] at hb)
      | (with_reducible refine Rets.xcall (sane_spec _) ?_)
      | (with_reducible refine Rets.xsoft (sane_spec _) ?_)
      | (with_reducible refine xlateCall_of (fun _ => sane_spec _) ?_)
      | (with_reducible refine Rets.xcall (refCheck_spec ..) ?_)
      | (with_reducible refine Rets.xsoft (refCheck_spec ..) ?_)
      | (with_reducible refine xlateCall_of (fun _ => refCheck_spec ..) ?_)
      | (with_reducible refine Lit.imm ?_)
      | ((with_reducible refine Grow.intro ?_ fun b cap hb hc1 hc2 => ?_); omega) <;> (try simp -dsimp -implicitDefEqProofs [*] at hb)
      | (with_reducible refine DrawLate.intro [] ?_)
      | (with_reducible refine Cls_and ?_ ?_)
      | (with_reducible exact Cls.self _ _)
      | (with_reducible refine Cls_same ?_)
      | (with_reducible refine Cls_in ?_ ?_)
      | (with_reducible refine Cls_fresh ?_ ?_)
      | (with_reducible refine And.intro (fun h => ?_) (fun h => ?_)) <;> (try (exfalso; omega))
      | (with_reducible refine And.intro (fun h => ?_) ?_) <;> (try (exfalso; omega))
      | ((with_reducible refine and_keep ?_ fun hk => ?_); omega)
      | (simp -dsimp -implicitDefEqProofs [*]))
end Go.Proofs.Ytbjfmedpaohpnaa
