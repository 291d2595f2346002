/- ReviewsOnce: the walk. -/
import Derived.Test.YtbjfmedpaohpnaaS44M
namespace Go.Proofs.Ytbjfmedpaohpnaa
open Go.Pv
set_option maxRecDepth 100000
set_option maxHeartbeats 8000000
def ints (l : List Int) : List PV := l.map PV.int
@[simp] theorem ints_len (l : List Int) : (ints l).length = l.length := by simp [ints]
theorem once_law (ts tt : Bool) (steps : List Step) (hv : ∀ s ∈ steps, I64 s.verdict) (times : List Int) (st : Store) : Rets P F.podiumlaw44_ReviewsOnce [Step.lst ts steps, .list tt (ints times) times.length] st (.bool true) := by
  refine (H.podiumlaw44_ReviewsOnce).pure hmix rfl rfl ?_
  by_cases hl : (20 : Int) < (steps.length : Int)
  · repeat' (first
      | (with_reducible refine Fresh.intro fun b hb => ?_) <;> (try simp -dsimp -implicitDefEqProofs [*] at hb)
      | (with_reducible refine Rets.xcall (sane_spec _) ?_)
      | (with_reducible refine Rets.xsoft (sane_spec _) ?_)
      | (with_reducible refine xlateCall_of (fun _ => sane_spec _) ?_)
      | (with_reducible refine Lit.imm ?_)
      | ((with_reducible refine Grow.intro ?_ fun b cap hb hc1 hc2 => ?_); omega) <;> (try simp -dsimp -implicitDefEqProofs [*] at hb)
      | (with_reducible refine DrawLate.intro [] ?_)
      | (with_reducible refine Cls_and ?_ ?_)
      | (with_reducible exact Cls.self _ _)
      | (with_reducible refine Cls_same ?_)
      | (with_reducible refine Cls_in ?_ ?_)
      | (with_reducible refine Cls_fresh ?_ ?_)
      | (with_reducible refine And.intro (fun h => ?_) (fun h => ?_)) <;> (try (exfalso; omega))
      | (with_reducible refine And.intro (fun h => ?_) ?_) <;> (try (exfalso; omega))
      | ((with_reducible refine and_keep ?_ fun hk => ?_); omega)
      | (simp -dsimp -implicitDefEqProofs [*]))
  have hl9 : steps.length ≤ 20 := by omega
  by_cases hl2 : (5 : Int) < (times.length : Int)
  · repeat' (first
      | (with_reducible refine Fresh.intro fun b hb => ?_) <;> (try simp -dsimp -implicitDefEqProofs [*] at hb)
      | (with_reducible refine Rets.xcall (sane_spec _) ?_)
      | (with_reducible refine Rets.xsoft (sane_spec _) ?_)
      | (with_reducible refine xlateCall_of (fun _ => sane_spec _) ?_)
      | (with_reducible refine Lit.imm ?_)
      | ((with_reducible refine Grow.intro ?_ fun b cap hb hc1 hc2 => ?_); omega) <;> (try simp -dsimp -implicitDefEqProofs [*] at hb)
      | (with_reducible refine DrawLate.intro [] ?_)
      | (with_reducible refine Cls_and ?_ ?_)
      | (with_reducible exact Cls.self _ _)
      | (with_reducible refine Cls_same ?_)
      | (with_reducible refine Cls_in ?_ ?_)
      | (with_reducible refine Cls_fresh ?_ ?_)
      | (with_reducible refine And.intro (fun h => ?_) (fun h => ?_)) <;> (try (exfalso; omega))
      | (with_reducible refine And.intro (fun h => ?_) ?_) <;> (try (exfalso; omega))
      | ((with_reducible refine and_keep ?_ fun hk => ?_); omega)
      | (simp -dsimp -implicitDefEqProofs [*]))
  have hl8 : times.length ≤ 5 := by omega
  repeat' (first
    | (with_reducible refine Fresh.intro fun b hb => ?_) <;> (try simp -dsimp -implicitDefEqProofs [*] at hb)
    | (with_reducible refine Rets.xcall (sane_spec _) ?_)
    | (with_reducible refine Rets.xsoft (sane_spec _) ?_)
    | (with_reducible refine xlateCall_of (fun _ => sane_spec _) ?_)
    | (with_reducible refine Lit.imm ?_)
    | ((with_reducible refine Grow.intro ?_ fun b cap hb hc1 hc2 => ?_); omega) <;> (try simp -dsimp -implicitDefEqProofs [*] at hb)
    | (with_reducible refine DrawLate.intro [] ?_)
    | (with_reducible refine Cls_and ?_ ?_)
    | (with_reducible exact Cls.self _ _)
    | (with_reducible refine Cls_same ?_)
    | (with_reducible refine Cls_in ?_ ?_)
    | (with_reducible refine Cls_fresh ?_ ?_)
    | (with_reducible refine And.intro (fun h => ?_) (fun h => ?_)) <;> (try (exfalso; omega))
    | (with_reducible refine And.intro (fun h => ?_) ?_) <;> (try (exfalso; omega))
    | ((with_reducible refine and_keep ?_ fun hk => ?_); omega)
    | (simp -dsimp -implicitDefEqProofs [*]))
  revert b
  intro bm hbm
  refine xloop_view (σ := Nat × List Review × RM) (fun x => [(0, Step.lst ts steps), (1, .list tt (ints times) times.length), (4, .bool false), (5, Review.lst false x.2.1), (6, .val (.map (some bm))), (31, Step.lst ts steps), (32, .int steps.length), (33, .int (x.1 : Nat))])
    (fun x => (bm, x.2.2.obj intKey Review.pv) :: st) (fun x => x.1 ≤ steps.length ∧ Same x.2.1 x.2.2 ∧ x.2.1.length ≤ x.1) (fun x => steps.length - x.1) (0, [], []) ?_ ?_ ?_
  · exact ⟨Nat.zero_le _, Same.nil, Nat.le_refl _⟩
  · refine View.ple (StLe.refl _) ?_
    simp
    refine ⟨.refl _, .refl _, .refl _, .nil1, .refl _, .refl _, .refl _, .refl _⟩
  rintro ⟨i, l, m⟩ ⟨hi, hs, hlen⟩
  simp only at hi hs hlen
  have hw := wrap_succ (n := i) (by omega)
  by_cases hil : i < steps.length
  · have hvi := hv _ (List.getElem_mem hil)
    generalize hsi : steps[i] = s at *
    by_cases hz : s.verdict = 0
    · by_cases hn : openN l s.no s.finding s.time = 0
      · obtain ⟨h1, h2⟩ := hs.opens hn
        have hlen2 := openL_length hn
        have hchk := openL_check hn
        have hml := h2.len
        rw [hlen2] at hml
        have o1 := open_spec false l hs.fits s.no s.finding s.time
        have c1 := check_spec false _ h2.fits
        rw [hn] at o1
        rw [hchk] at c1
        generalize openL l s.no s.finding s.time = A at *
        have hfold : [PV.int s.no, PV.int s.finding, PV.int s.time, PV.int (-1), PV.int 0] = (opened s.no s.finding s.time).enc := rfl
        have hput := KM.int_put Review.pv m s.no
        clear hn hv hchk
        repeat' (first
          | (with_reducible refine Fresh.intro fun b hb => ?_) <;> (try simp -dsimp -implicitDefEqProofs [*] at hb)
          | (with_reducible refine Rets.xcall (o1 _) ?_)
          | (with_reducible refine Rets.xsoft (o1 _) ?_)
          | (with_reducible refine xlateCall_of (fun _ => o1 _) ?_)
          | (with_reducible refine Rets.xcall (c1 _) ?_)
          | (with_reducible refine Rets.xsoft (c1 _) ?_)
          | (with_reducible refine xlateCall_of (fun _ => c1 _) ?_)
          | (with_reducible refine Lit.imm ?_)
          | ((with_reducible refine Grow.intro ?_ fun b cap hb hc1 hc2 => ?_); omega) <;> (try simp -dsimp -implicitDefEqProofs [*] at hb)
          | (with_reducible refine DrawLate.intro [] ?_)
          | (with_reducible refine Cls_and ?_ ?_)
          | (with_reducible exact Cls.self _ _)
          | (with_reducible refine Cls_same ?_)
          | (with_reducible refine Cls_in ?_ ?_)
          | (with_reducible refine Cls_fresh ?_ ?_)
          | (with_reducible refine And.intro (fun h => ?_) (fun h => ?_)) <;> (try (exfalso; omega))
          | (with_reducible refine And.intro (fun h => ?_) ?_) <;> (try (exfalso; omega))
          | ((with_reducible refine and_keep ?_ fun hk => ?_); omega)
          | (simp -dsimp -implicitDefEqProofs [hfold, *]))
        exact Next.intro (i + 1, A, m.put s.no (opened s.no s.finding s.time)) ⟨by simp only; omega, h2, by simp only; omega⟩ (by simp only; omega) (by simp [*]) (by repeat' (first | exact StLe.refl _ | (refine StLe_cons (by simp [*]; done) ?_) | (refine StLe_fresh (by simp [*]; done) ?_)))
      · have hchk : checkE l = 0 := checkE_zero.2 ⟨by omega, hs.ok⟩
        have hml := hs.len
        have o1 := open_spec false l hs.fits s.no s.finding s.time
        have c1 := check_spec false _ hs.fits
        rw [openL_not hn] at o1
        rw [hchk] at c1
        generalize openN l s.no s.finding s.time = N at *
        clear hv hchk
        cases hlk : m.look s.no with
        | none =>
          repeat' (first
            | (with_reducible refine Fresh.intro fun b hb => ?_) <;> (try simp -dsimp -implicitDefEqProofs [*] at hb)
            | (with_reducible refine Rets.xcall (o1 _) ?_)
            | (with_reducible refine Rets.xsoft (o1 _) ?_)
            | (with_reducible refine xlateCall_of (fun _ => o1 _) ?_)
            | (with_reducible refine Rets.xcall (c1 _) ?_)
            | (with_reducible refine Rets.xsoft (c1 _) ?_)
            | (with_reducible refine xlateCall_of (fun _ => c1 _) ?_)
            | (with_reducible refine Lit.imm ?_)
            | ((with_reducible refine Grow.intro ?_ fun b cap hb hc1 hc2 => ?_); omega) <;> (try simp -dsimp -implicitDefEqProofs [*] at hb)
            | (with_reducible refine DrawLate.intro [] ?_)
            | (with_reducible refine Cls_and ?_ ?_)
            | (with_reducible exact Cls.self _ _)
            | (with_reducible refine Cls_same ?_)
            | (with_reducible refine Cls_in ?_ ?_)
            | (with_reducible refine Cls_fresh ?_ ?_)
            | (with_reducible refine And.intro (fun h => ?_) (fun h => ?_)) <;> (try (exfalso; omega))
            | (with_reducible refine And.intro (fun h => ?_) ?_) <;> (try (exfalso; omega))
            | ((with_reducible refine and_keep ?_ fun hk => ?_); omega)
            | (simp -dsimp -implicitDefEqProofs [*]))
          exact Next.intro (i + 1, l, m) ⟨by simp only; omega, hs, by simp only; omega⟩ (by simp only; omega) (by simp [*]) (by repeat' (first | exact StLe.refl _ | (refine StLe_cons (by simp [*]; done) ?_) | (refine StLe_fresh (by simp [*]; done) ?_)))
        | some y =>
          repeat' (first
            | (with_reducible refine Fresh.intro fun b hb => ?_) <;> (try simp -dsimp -implicitDefEqProofs [*] at hb)
            | (with_reducible refine Rets.xcall (o1 _) ?_)
            | (with_reducible refine Rets.xsoft (o1 _) ?_)
            | (with_reducible refine xlateCall_of (fun _ => o1 _) ?_)
            | (with_reducible refine Rets.xcall (c1 _) ?_)
            | (with_reducible refine Rets.xsoft (c1 _) ?_)
            | (with_reducible refine xlateCall_of (fun _ => c1 _) ?_)
            | (with_reducible refine Lit.imm ?_)
            | ((with_reducible refine Grow.intro ?_ fun b cap hb hc1 hc2 => ?_); omega) <;> (try simp -dsimp -implicitDefEqProofs [*] at hb)
            | (with_reducible refine DrawLate.intro [] ?_)
            | (with_reducible refine Cls_and ?_ ?_)
            | (with_reducible exact Cls.self _ _)
            | (with_reducible refine Cls_same ?_)
            | (with_reducible refine Cls_in ?_ ?_)
            | (with_reducible refine Cls_fresh ?_ ?_)
            | (with_reducible refine And.intro (fun h => ?_) (fun h => ?_)) <;> (try (exfalso; omega))
            | (with_reducible refine And.intro (fun h => ?_) ?_) <;> (try (exfalso; omega))
            | ((with_reducible refine and_keep ?_ fun hk => ?_); omega)
            | (simp -dsimp -implicitDefEqProofs [*]))
          exact Next.intro (i + 1, l, m) ⟨by simp only; omega, hs, by simp only; omega⟩ (by simp only; omega) (by simp [*]) (by repeat' (first | exact StLe.refl _ | (refine StLe_cons (by simp [*]; done) ?_) | (refine StLe_fresh (by simp [*]; done) ?_)))
    · by_cases hn : closeN l s.no s.time s.verdict = 0
      · obtain ⟨e, h1, hcl, hop, h2⟩ := hs.shuts hvi hn
        have hlen2 := closeL_length hn
        have hchk := closeL_check hn
        have h2 : Same (closeL l s.no s.time s.verdict) (m.put s.no ⟨e.no, e.finding, e.opened, s.time, s.verdict⟩) := h2
        have hml := h2.len
        rw [hlen2] at hml
        have o1 := close_spec false l hs.fits s.no s.time s.verdict hvi
        have c1 := check_spec false _ h2.fits
        rw [hn] at o1
        rw [hchk] at c1
        generalize closeL l s.no s.time s.verdict = A at *
        have hput := KM.int_put Review.pv m s.no
        clear hn hv hchk
        repeat' (first
          | (with_reducible refine Fresh.intro fun b hb => ?_) <;> (try simp -dsimp -implicitDefEqProofs [*] at hb)
          | (with_reducible refine Rets.xcall (o1 _) ?_)
          | (with_reducible refine Rets.xsoft (o1 _) ?_)
          | (with_reducible refine xlateCall_of (fun _ => o1 _) ?_)
          | (with_reducible refine Rets.xcall (c1 _) ?_)
          | (with_reducible refine Rets.xsoft (c1 _) ?_)
          | (with_reducible refine xlateCall_of (fun _ => c1 _) ?_)
          | (with_reducible refine Lit.imm ?_)
          | ((with_reducible refine Grow.intro ?_ fun b cap hb hc1 hc2 => ?_); omega) <;> (try simp -dsimp -implicitDefEqProofs [*] at hb)
          | (with_reducible refine Cls_and ?_ ?_)
          | (with_reducible exact Cls.self _ _)
          | (with_reducible refine Cls_same ?_)
          | (with_reducible refine Cls_in ?_ ?_)
          | (with_reducible refine Cls_fresh ?_ ?_)
          | (with_reducible refine And.intro (fun h => ?_) (fun h => ?_)) <;> (try (exfalso; omega))
          | (with_reducible refine And.intro (fun h => ?_) ?_) <;> (try (exfalso; omega))
          | ((with_reducible refine and_keep ?_ fun hk => ?_); omega)
          | (simp -dsimp -implicitDefEqProofs [*]))
        refine DrawLate.intro [b] ?_
        repeat' (first
          | (with_reducible refine Fresh.intro fun b hb => ?_) <;> (try simp -dsimp -implicitDefEqProofs [*] at hb)
          | (with_reducible refine Rets.xcall (o1 _) ?_)
          | (with_reducible refine Rets.xsoft (o1 _) ?_)
          | (with_reducible refine xlateCall_of (fun _ => o1 _) ?_)
          | (with_reducible refine Rets.xcall (c1 _) ?_)
          | (with_reducible refine Rets.xsoft (c1 _) ?_)
          | (with_reducible refine xlateCall_of (fun _ => c1 _) ?_)
          | (with_reducible refine Lit.imm ?_)
          | ((with_reducible refine Grow.intro ?_ fun b cap hb hc1 hc2 => ?_); omega) <;> (try simp -dsimp -implicitDefEqProofs [*] at hb)
          | (with_reducible refine Cls_and ?_ ?_)
          | (with_reducible exact Cls.self _ _)
          | (with_reducible refine Cls_same ?_)
          | (with_reducible refine Cls_in ?_ ?_)
          | (with_reducible refine Cls_fresh ?_ ?_)
          | (with_reducible refine And.intro (fun h => ?_) (fun h => ?_)) <;> (try (exfalso; omega))
          | (with_reducible refine And.intro (fun h => ?_) ?_) <;> (try (exfalso; omega))
          | ((with_reducible refine and_keep ?_ fun hk => ?_); omega)
          | (simp -dsimp -implicitDefEqProofs [*]))
        exact Next.intro (i + 1, A, m.put s.no ⟨e.no, e.finding, e.opened, s.time, s.verdict⟩) ⟨by simp only; omega, h2, by simp only; omega⟩ (by simp only; omega) (by simp [*]) (by repeat' (first | exact StLe.refl _ | (refine StLe_cons (by simp [*]; done) ?_) | (refine StLe_fresh (by simp [*]; done) ?_)))
      · have hchk : checkE l = 0 := checkE_zero.2 ⟨by omega, hs.ok⟩
        have hml := hs.len
        have o1 := close_spec false l hs.fits s.no s.time s.verdict hvi
        have c1 := check_spec false _ hs.fits
        rw [closeL_not hn] at o1
        rw [hchk] at c1
        generalize closeN l s.no s.time s.verdict = N at *
        clear hv hchk
        cases hlk : m.look s.no with
        | none =>
          repeat' (first
            | (with_reducible refine Fresh.intro fun b hb => ?_) <;> (try simp -dsimp -implicitDefEqProofs [*] at hb)
            | (with_reducible refine Rets.xcall (o1 _) ?_)
            | (with_reducible refine Rets.xsoft (o1 _) ?_)
            | (with_reducible refine xlateCall_of (fun _ => o1 _) ?_)
            | (with_reducible refine Rets.xcall (c1 _) ?_)
            | (with_reducible refine Rets.xsoft (c1 _) ?_)
            | (with_reducible refine xlateCall_of (fun _ => c1 _) ?_)
            | (with_reducible refine Lit.imm ?_)
            | ((with_reducible refine Grow.intro ?_ fun b cap hb hc1 hc2 => ?_); omega) <;> (try simp -dsimp -implicitDefEqProofs [*] at hb)
            | (with_reducible refine DrawLate.intro [] ?_)
            | (with_reducible refine Cls_and ?_ ?_)
            | (with_reducible exact Cls.self _ _)
            | (with_reducible refine Cls_same ?_)
            | (with_reducible refine Cls_in ?_ ?_)
            | (with_reducible refine Cls_fresh ?_ ?_)
            | (with_reducible refine And.intro (fun h => ?_) (fun h => ?_)) <;> (try (exfalso; omega))
            | (with_reducible refine And.intro (fun h => ?_) ?_) <;> (try (exfalso; omega))
            | ((with_reducible refine and_keep ?_ fun hk => ?_); omega)
            | (simp -dsimp -implicitDefEqProofs [*]))
          exact Next.intro (i + 1, l, m) ⟨by simp only; omega, hs, by simp only; omega⟩ (by simp only; omega) (by simp [*]) (by repeat' (first | exact StLe.refl _ | (refine StLe_cons (by simp [*]; done) ?_) | (refine StLe_fresh (by simp [*]; done) ?_)))
        | some y =>
          repeat' (first
            | (with_reducible refine Fresh.intro fun b hb => ?_) <;> (try simp -dsimp -implicitDefEqProofs [*] at hb)
            | (with_reducible refine Rets.xcall (o1 _) ?_)
            | (with_reducible refine Rets.xsoft (o1 _) ?_)
            | (with_reducible refine xlateCall_of (fun _ => o1 _) ?_)
            | (with_reducible refine Rets.xcall (c1 _) ?_)
            | (with_reducible refine Rets.xsoft (c1 _) ?_)
            | (with_reducible refine xlateCall_of (fun _ => c1 _) ?_)
            | (with_reducible refine Lit.imm ?_)
            | ((with_reducible refine Grow.intro ?_ fun b cap hb hc1 hc2 => ?_); omega) <;> (try simp -dsimp -implicitDefEqProofs [*] at hb)
            | (with_reducible refine DrawLate.intro [] ?_)
            | (with_reducible refine Cls_and ?_ ?_)
            | (with_reducible exact Cls.self _ _)
            | (with_reducible refine Cls_same ?_)
            | (with_reducible refine Cls_in ?_ ?_)
            | (with_reducible refine Cls_fresh ?_ ?_)
            | (with_reducible refine And.intro (fun h => ?_) (fun h => ?_)) <;> (try (exfalso; omega))
            | (with_reducible refine And.intro (fun h => ?_) ?_) <;> (try (exfalso; omega))
            | ((with_reducible refine and_keep ?_ fun hk => ?_); omega)
            | (simp -dsimp -implicitDefEqProofs [*]))
          exact Next.intro (i + 1, l, m) ⟨by simp only; omega, hs, by simp only; omega⟩ (by simp only; omega) (by simp [*]) (by repeat' (first | exact StLe.refl _ | (refine StLe_cons (by simp [*]; done) ?_) | (refine StLe_fresh (by simp [*]; done) ?_)))
  · clear hv
    have hle : steps.length ≤ i := by omega
    repeat' (first
      | (with_reducible refine Fresh.intro fun b hb => ?_) <;> (try simp -dsimp -implicitDefEqProofs [*] at hb)
      | (with_reducible refine Lit.imm ?_)
      | ((with_reducible refine Grow.intro ?_ fun b cap hb hc1 hc2 => ?_); omega) <;> (try simp -dsimp -implicitDefEqProofs [*] at hb)
      | (with_reducible refine DrawLate.intro [] ?_)
      | (with_reducible refine Cls_and ?_ ?_)
      | (with_reducible exact Cls.self _ _)
      | (with_reducible refine Cls_same ?_)
      | (with_reducible refine Cls_in ?_ ?_)
      | (with_reducible refine Cls_fresh ?_ ?_)
      | (with_reducible refine And.intro (fun h => ?_) (fun h => ?_)) <;> (try (exfalso; omega))
      | (with_reducible refine And.intro (fun h => ?_) ?_) <;> (try (exfalso; omega))
      | ((with_reducible refine and_keep ?_ fun hk => ?_); omega)
      | (simp -dsimp -implicitDefEqProofs [*]))
    refine xloop_for (σ := Nat) (fun k => [(1, .list tt (ints times) times.length), (4, .bool false), (5, Review.lst false l), (6, .val (.map (some bm))), (122, Review.lst false l), (123, .int l.length), (124, .int (k : Nat))])
      (fun _ => (bm, m.obj intKey Review.pv) :: st) (fun k => k ≤ l.length) (fun k => l.length - k) 0 (Nat.zero_le _) (by simp) (by simp) ?_
    have hl20 : l.length ≤ 20 := by omega
    clear hw hil hi
    intro k hk
    have hw := wrap_succ (n := k) (by omega)
    by_cases hkl : k < l.length
    · have hx := (hs.look l[k].no l[k]).2 ⟨List.getElem_mem hkl, rfl⟩
      have hval := hs.ok.1 _ (List.getElem_mem hkl)
      have hprev : ∀ h : k - 1 < l.length, 0 < k → l[k - 1].no < l[k].no := fun h h0 => sortedE hs.ok _ _ (by omega) hkl h
      have hw2 : IntKind.i64.wrap ((k : Int) - 1) = (k : Int) - 1 := wrap_in (by omega) (by omega)
      have ht : ((k : Int) - 1).toNat = k - 1 := by omega
      have hst : ∀ t, wi t 2097152 = true → _ := fun t h => stands_idx hs.ok (by omega) (List.getElem_mem hkl) h
      have hsf := hs.fits
      generalize hx' : l[k] = x at *
      clear hs hlen hl hl2 hle
      obtain ⟨four, hfour⟩ : ∃ four : List Int, four = [x.opened, IntKind.i64.wrap (x.opened - 1), x.closed, IntKind.i64.wrap (x.closed - 1)] := ⟨_, rfl⟩
      have hall9 : (four ++ times).length ≤ 9 := by rw [hfour]; simp; omega
      have hall4 : four.length = 4 := by rw [hfour]; rfl
      by_cases h0 : 0 < k
      · have hp := hprev (by omega) h0
        clear hprev
        by_cases ht0 : times = []
        · repeat' (first
            | (with_reducible refine Fresh.intro fun b hb => ?_) <;> (try simp -dsimp -implicitDefEqProofs [*] at hb)
            | (with_reducible refine Lit.imm ?_)
            | ((with_reducible refine Grow.intro ?_ fun b cap hb hc1 hc2 => ?_); omega) <;> (try simp -dsimp -implicitDefEqProofs [*] at hb)
            | (with_reducible refine DrawLate.intro [] ?_)
            | (with_reducible refine Cls_and ?_ ?_)
            | (with_reducible exact Cls.self _ _)
            | (with_reducible refine Cls_same ?_)
            | (with_reducible refine Cls_in ?_ ?_)
            | (with_reducible refine Cls_fresh ?_ ?_)
            | (with_reducible refine And.intro (fun h => ?_) (fun h => ?_)) <;> (try (exfalso; omega))
            | (with_reducible refine And.intro (fun h => ?_) ?_) <;> (try (exfalso; omega))
            | ((with_reducible refine and_keep ?_ fun hk => ?_); omega)
            | (simp -dsimp -implicitDefEqProofs [*]))
          refine xloop_view (σ := Nat) (fun j => [(1, .list tt (ints times) times.length), (4, .bool false), (5, Review.lst false l), (6, .val (.map (some bm))), (14, .ptr b 0), (122, Review.lst false l), (123, .int l.length), (124, .int (k : Nat)), (163, .list false (ints (four ++ times)) (four ++ times).length), (164, .int (four ++ times).length), (165, .int (j : Nat))])
            (fun _ => (b, .arr T.apiReview x.enc) :: (bm, m.obj intKey Review.pv) :: st) (fun j => j ≤ (four ++ times).length) (fun j => (four ++ times).length - j) 0 (Nat.zero_le _) ?_ ?_
          · subst ht0
            subst hfour
            refine View.ple (StLe.refl _) fun q hq => ?_
            simp only [List.mem_cons, List.not_mem_nil, or_false] at hq
            rcases hq with rfl | rfl | rfl | rfl | rfl | rfl | rfl | rfl | rfl | rfl | rfl
            all_goals first | exact PLe.refl _ | exact PLe.loose
          intro j hj
          have hwj := wrap_succ (n := j) (by omega)
          clear ht hx
          generalize four ++ times = all at *
          by_cases hja : j < all.length
          · have hget : (ints all)[j]? = some (.int all[j]) := by simp [ints, hja]
            have hget2 : ∀ h : j < (ints all).length, (ints all)[j]'h = .int all[j] := fun h => by simp [ints]
            generalize all[j] = t at *
            by_cases htw : wi t 2097152 = true
            · obtain ⟨g1, g2⟩ := hst t htw
              have ss := standsL_spec false l hsf (by omega) x.no t
              have htr : 0 ≤ t ∧ t < 2097152 := by simpa [wi] using htw
              have hvc := valid_closed hval
              have hse : standsE t x = (decide (x.opened ≤ t) && (decide (x.closed < 0) || decide (t < x.closed))) := by
                unfold standsE
                simp only [hvc]
              rw [g2, g1, hse] at ss
              obtain ⟨t1, t2⟩ := htr
              clear hse hst g1 g2 hvc htw hsf hval
              repeat' (first
                | (with_reducible refine Fresh.intro fun b hb => ?_) <;> (try simp -dsimp -implicitDefEqProofs [*] at hb)
                | (with_reducible refine Rets.xcall (ss _) ?_)
                | (with_reducible refine Rets.xsoft (ss _) ?_)
                | (with_reducible refine xlateCall_of (fun _ => ss _) ?_)
                | (with_reducible refine Lit.imm ?_)
                | ((with_reducible refine Grow.intro ?_ fun b cap hb hc1 hc2 => ?_); omega) <;> (try simp -dsimp -implicitDefEqProofs [*] at hb)
                | (with_reducible refine DrawLate.intro [] ?_)
                | (with_reducible refine Cls_and ?_ ?_)
                | (with_reducible exact Cls.self _ _)
                | (with_reducible refine Cls_same ?_)
                | (with_reducible refine Cls_in ?_ ?_)
                | (with_reducible refine Cls_fresh ?_ ?_)
                | (with_reducible refine And.intro (fun h => ?_) (fun h => ?_)) <;> (try (exfalso; omega))
                | (with_reducible refine And.intro (fun h => ?_) ?_) <;> (try (exfalso; omega))
                | ((with_reducible refine and_keep ?_ fun hk => ?_); omega)
                | (simp -dsimp -implicitDefEqProofs [*]))
              all_goals first | (intros; exact Next.intro (j + 1) (by omega) (by omega) (by simp [*]) (by repeat' (first | exact StLe.refl _ | (refine StLe_cons (by simp [*]; done) ?_) | (refine StLe_fresh (by simp [*]; done) ?_)))) | (intros; omega)
            · have htr : ¬ (0 ≤ t ∧ t < 2097152) := by simpa [wi] using htw
              clear hst htw hsf hval
              by_cases t1 : 0 ≤ t
              · have t2 : 2097152 ≤ t := by omega
                clear htr
                repeat' (first
                  | (with_reducible refine Fresh.intro fun b hb => ?_) <;> (try simp -dsimp -implicitDefEqProofs [*] at hb)
                  | (with_reducible refine Lit.imm ?_)
                  | ((with_reducible refine Grow.intro ?_ fun b cap hb hc1 hc2 => ?_); omega) <;> (try simp -dsimp -implicitDefEqProofs [*] at hb)
                  | (with_reducible refine DrawLate.intro [] ?_)
                  | (with_reducible refine Cls_and ?_ ?_)
                  | (with_reducible exact Cls.self _ _)
                  | (with_reducible refine Cls_same ?_)
                  | (with_reducible refine Cls_in ?_ ?_)
                  | (with_reducible refine Cls_fresh ?_ ?_)
                  | (with_reducible refine And.intro (fun h => ?_) (fun h => ?_)) <;> (try (exfalso; omega))
                  | (with_reducible refine And.intro (fun h => ?_) ?_) <;> (try (exfalso; omega))
                  | ((with_reducible refine and_keep ?_ fun hk => ?_); omega)
                  | (simp -dsimp -implicitDefEqProofs [*]))
                all_goals first | (intros; exact Next.intro (j + 1) (by omega) (by omega) (by simp [*]) (by repeat' (first | exact StLe.refl _ | (refine StLe_cons (by simp [*]; done) ?_) | (refine StLe_fresh (by simp [*]; done) ?_)))) | (intros; omega)
              · clear htr
                repeat' (first
                  | (with_reducible refine Fresh.intro fun b hb => ?_) <;> (try simp -dsimp -implicitDefEqProofs [*] at hb)
                  | (with_reducible refine Lit.imm ?_)
                  | ((with_reducible refine Grow.intro ?_ fun b cap hb hc1 hc2 => ?_); omega) <;> (try simp -dsimp -implicitDefEqProofs [*] at hb)
                  | (with_reducible refine DrawLate.intro [] ?_)
                  | (with_reducible refine Cls_and ?_ ?_)
                  | (with_reducible exact Cls.self _ _)
                  | (with_reducible refine Cls_same ?_)
                  | (with_reducible refine Cls_in ?_ ?_)
                  | (with_reducible refine Cls_fresh ?_ ?_)
                  | (with_reducible refine And.intro (fun h => ?_) (fun h => ?_)) <;> (try (exfalso; omega))
                  | (with_reducible refine And.intro (fun h => ?_) ?_) <;> (try (exfalso; omega))
                  | ((with_reducible refine and_keep ?_ fun hk => ?_); omega)
                  | (simp -dsimp -implicitDefEqProofs [*]))
                all_goals first | (intros; exact Next.intro (j + 1) (by omega) (by omega) (by simp [*]) (by repeat' (first | exact StLe.refl _ | (refine StLe_cons (by simp [*]; done) ?_) | (refine StLe_fresh (by simp [*]; done) ?_)))) | (intros; omega)
          · clear hst hsf hval
            repeat' (first
              | (with_reducible refine Fresh.intro fun b hb => ?_) <;> (try simp -dsimp -implicitDefEqProofs [*] at hb)
              | (with_reducible refine Lit.imm ?_)
              | ((with_reducible refine Grow.intro ?_ fun b cap hb hc1 hc2 => ?_); omega) <;> (try simp -dsimp -implicitDefEqProofs [*] at hb)
              | (with_reducible refine DrawLate.intro [] ?_)
              | (with_reducible refine Cls_and ?_ ?_)
              | (with_reducible exact Cls.self _ _)
              | (with_reducible refine Cls_same ?_)
              | (with_reducible refine Cls_in ?_ ?_)
              | (with_reducible refine Cls_fresh ?_ ?_)
              | (with_reducible refine And.intro (fun h => ?_) (fun h => ?_)) <;> (try (exfalso; omega))
              | (with_reducible refine And.intro (fun h => ?_) ?_) <;> (try (exfalso; omega))
              | ((with_reducible refine and_keep ?_ fun hk => ?_); omega)
              | (simp -dsimp -implicitDefEqProofs [*]))
            all_goals exact Next.intro (k + 1) (by omega) (by omega) (by simp [*]) (by repeat' (first | exact StLe.refl _ | (refine StLe_cons (by simp [*]; done) ?_) | (refine StLe_fresh (by simp [*]; done) ?_)))
        · repeat' (first
            | (with_reducible refine Fresh.intro fun b hb => ?_) <;> (try simp -dsimp -implicitDefEqProofs [*] at hb)
            | (with_reducible refine Lit.imm ?_)
            | ((with_reducible refine Grow.intro ?_ fun b cap hb hc1 hc2 => ?_); omega) <;> (try simp -dsimp -implicitDefEqProofs [*] at hb)
            | (with_reducible refine DrawLate.intro [] ?_)
            | (with_reducible refine Cls_and ?_ ?_)
            | (with_reducible exact Cls.self _ _)
            | (with_reducible refine Cls_same ?_)
            | (with_reducible refine Cls_in ?_ ?_)
            | (with_reducible refine Cls_fresh ?_ ?_)
            | (with_reducible refine And.intro (fun h => ?_) (fun h => ?_)) <;> (try (exfalso; omega))
            | (with_reducible refine And.intro (fun h => ?_) ?_) <;> (try (exfalso; omega))
            | ((with_reducible refine and_keep ?_ fun hk => ?_); omega)
            | (simp -dsimp -implicitDefEqProofs [*]))
          rename_i b14 hb14 _ _
          refine xloop_view (σ := Nat) (fun j => [(1, .list tt (ints times) times.length), (4, .bool false), (5, Review.lst false l), (6, .val (.map (some bm))), (14, .ptr b14 0), (122, Review.lst false l), (123, .int l.length), (124, .int (k : Nat)), (163, .list false (ints (four ++ times)) (four ++ times).length), (164, .int (four ++ times).length), (165, .int (j : Nat))])
            (fun _ => (b14, .arr T.apiReview x.enc) :: (bm, m.obj intKey Review.pv) :: st) (fun j => j ≤ (four ++ times).length) (fun j => (four ++ times).length - j) 0 (Nat.zero_le _) ?_ ?_
          · have hn : (four ++ times).length = 4 + times.length := by rw [List.length_append, hall4]
            rw [hn]
            refine View.frz (b := b) (st' := (b14, .arr T.apiReview x.enc) :: (bm, m.obj intKey Review.pv) :: st) (by simp [*]) (StLe.refl _) fun q hq => ?_
            have hown := Frz.own (b := b) (o := .arr T.int (ints (four ++ times) ++ List.replicate (cap - (4 + times.length)) PV.any)) T.int _ 0 (4 + times.length) cap 1 rfl hc1 hc2
            rw [List.drop_zero, Nat.mul_one, List.take_left' (by rw [ints_len, hn])] at hown
            simp only [List.mem_cons, List.not_mem_nil, or_false] at hq
            subst hfour
            rcases hq with rfl | rfl | rfl | rfl | rfl | rfl | rfl | rfl | rfl | rfl | rfl
            all_goals first | exact Frz.refl _ | exact hown | exact Frz.of_eq (by simp [eget])
          intro j hj
          have hwj := wrap_succ (n := j) (by omega)
          clear ht hx
          generalize four ++ times = all at *
          by_cases hja : j < all.length
          · have hget : (ints all)[j]? = some (.int all[j]) := by simp [ints, hja]
            have hget2 : ∀ h : j < (ints all).length, (ints all)[j]'h = .int all[j] := fun h => by simp [ints]
            generalize all[j] = t at *
            by_cases htw : wi t 2097152 = true
            · obtain ⟨g1, g2⟩ := hst t htw
              have ss := standsL_spec false l hsf (by omega) x.no t
              have htr : 0 ≤ t ∧ t < 2097152 := by simpa [wi] using htw
              have hvc := valid_closed hval
              have hse : standsE t x = (decide (x.opened ≤ t) && (decide (x.closed < 0) || decide (t < x.closed))) := by
                unfold standsE
                simp only [hvc]
              rw [g2, g1, hse] at ss
              obtain ⟨t1, t2⟩ := htr
              clear hse hst g1 g2 hvc htw hsf hval
              repeat' (first
                | (with_reducible refine Fresh.intro fun b hb => ?_) <;> (try simp -dsimp -implicitDefEqProofs [*] at hb)
                | (with_reducible refine Rets.xcall (ss _) ?_)
                | (with_reducible refine Rets.xsoft (ss _) ?_)
                | (with_reducible refine xlateCall_of (fun _ => ss _) ?_)
                | (with_reducible refine Lit.imm ?_)
                | ((with_reducible refine Grow.intro ?_ fun b cap hb hc1 hc2 => ?_); omega) <;> (try simp -dsimp -implicitDefEqProofs [*] at hb)
                | (with_reducible refine DrawLate.intro [] ?_)
                | (with_reducible refine Cls_and ?_ ?_)
                | (with_reducible exact Cls.self _ _)
                | (with_reducible refine Cls_same ?_)
                | (with_reducible refine Cls_in ?_ ?_)
                | (with_reducible refine Cls_fresh ?_ ?_)
                | (with_reducible refine And.intro (fun h => ?_) (fun h => ?_)) <;> (try (exfalso; omega))
                | (with_reducible refine And.intro (fun h => ?_) ?_) <;> (try (exfalso; omega))
                | ((with_reducible refine and_keep ?_ fun hk => ?_); omega)
                | (simp -dsimp -implicitDefEqProofs [*]))
              all_goals first | (intros; exact Next.intro (j + 1) (by omega) (by omega) (by simp [*]) (by repeat' (first | exact StLe.refl _ | (refine StLe_cons (by simp [*]; done) ?_) | (refine StLe_fresh (by simp [*]; done) ?_)))) | (intros; omega)
            · have htr : ¬ (0 ≤ t ∧ t < 2097152) := by simpa [wi] using htw
              clear hst htw hsf hval
              by_cases t1 : 0 ≤ t
              · have t2 : 2097152 ≤ t := by omega
                clear htr
                repeat' (first
                  | (with_reducible refine Fresh.intro fun b hb => ?_) <;> (try simp -dsimp -implicitDefEqProofs [*] at hb)
                  | (with_reducible refine Lit.imm ?_)
                  | ((with_reducible refine Grow.intro ?_ fun b cap hb hc1 hc2 => ?_); omega) <;> (try simp -dsimp -implicitDefEqProofs [*] at hb)
                  | (with_reducible refine DrawLate.intro [] ?_)
                  | (with_reducible refine Cls_and ?_ ?_)
                  | (with_reducible exact Cls.self _ _)
                  | (with_reducible refine Cls_same ?_)
                  | (with_reducible refine Cls_in ?_ ?_)
                  | (with_reducible refine Cls_fresh ?_ ?_)
                  | (with_reducible refine And.intro (fun h => ?_) (fun h => ?_)) <;> (try (exfalso; omega))
                  | (with_reducible refine And.intro (fun h => ?_) ?_) <;> (try (exfalso; omega))
                  | ((with_reducible refine and_keep ?_ fun hk => ?_); omega)
                  | (simp -dsimp -implicitDefEqProofs [*]))
                all_goals first | (intros; exact Next.intro (j + 1) (by omega) (by omega) (by simp [*]) (by repeat' (first | exact StLe.refl _ | (refine StLe_cons (by simp [*]; done) ?_) | (refine StLe_fresh (by simp [*]; done) ?_)))) | (intros; omega)
              · clear htr
                repeat' (first
                  | (with_reducible refine Fresh.intro fun b hb => ?_) <;> (try simp -dsimp -implicitDefEqProofs [*] at hb)
                  | (with_reducible refine Lit.imm ?_)
                  | ((with_reducible refine Grow.intro ?_ fun b cap hb hc1 hc2 => ?_); omega) <;> (try simp -dsimp -implicitDefEqProofs [*] at hb)
                  | (with_reducible refine DrawLate.intro [] ?_)
                  | (with_reducible refine Cls_and ?_ ?_)
                  | (with_reducible exact Cls.self _ _)
                  | (with_reducible refine Cls_same ?_)
                  | (with_reducible refine Cls_in ?_ ?_)
                  | (with_reducible refine Cls_fresh ?_ ?_)
                  | (with_reducible refine And.intro (fun h => ?_) (fun h => ?_)) <;> (try (exfalso; omega))
                  | (with_reducible refine And.intro (fun h => ?_) ?_) <;> (try (exfalso; omega))
                  | ((with_reducible refine and_keep ?_ fun hk => ?_); omega)
                  | (simp -dsimp -implicitDefEqProofs [*]))
                all_goals first | (intros; exact Next.intro (j + 1) (by omega) (by omega) (by simp [*]) (by repeat' (first | exact StLe.refl _ | (refine StLe_cons (by simp [*]; done) ?_) | (refine StLe_fresh (by simp [*]; done) ?_)))) | (intros; omega)
          · clear hst hsf hval
            repeat' (first
              | (with_reducible refine Fresh.intro fun b hb => ?_) <;> (try simp -dsimp -implicitDefEqProofs [*] at hb)
              | (with_reducible refine Lit.imm ?_)
              | ((with_reducible refine Grow.intro ?_ fun b cap hb hc1 hc2 => ?_); omega) <;> (try simp -dsimp -implicitDefEqProofs [*] at hb)
              | (with_reducible refine DrawLate.intro [] ?_)
              | (with_reducible refine Cls_and ?_ ?_)
              | (with_reducible exact Cls.self _ _)
              | (with_reducible refine Cls_same ?_)
              | (with_reducible refine Cls_in ?_ ?_)
              | (with_reducible refine Cls_fresh ?_ ?_)
              | (with_reducible refine And.intro (fun h => ?_) (fun h => ?_)) <;> (try (exfalso; omega))
              | (with_reducible refine And.intro (fun h => ?_) ?_) <;> (try (exfalso; omega))
              | ((with_reducible refine and_keep ?_ fun hk => ?_); omega)
              | (simp -dsimp -implicitDefEqProofs [*]))
            all_goals exact Next.intro (k + 1) (by omega) (by omega) (by simp [*]) (by repeat' (first | exact StLe.refl _ | (refine StLe_cons (by simp [*]; done) ?_) | (refine StLe_fresh (by simp [*]; done) ?_)))
      · clear hprev
        by_cases ht0 : times = []
        · repeat' (first
            | (with_reducible refine Fresh.intro fun b hb => ?_) <;> (try simp -dsimp -implicitDefEqProofs [*] at hb)
            | (with_reducible refine Lit.imm ?_)
            | ((with_reducible refine Grow.intro ?_ fun b cap hb hc1 hc2 => ?_); omega) <;> (try simp -dsimp -implicitDefEqProofs [*] at hb)
            | (with_reducible refine DrawLate.intro [] ?_)
            | (with_reducible refine Cls_and ?_ ?_)
            | (with_reducible exact Cls.self _ _)
            | (with_reducible refine Cls_same ?_)
            | (with_reducible refine Cls_in ?_ ?_)
            | (with_reducible refine Cls_fresh ?_ ?_)
            | (with_reducible refine And.intro (fun h => ?_) (fun h => ?_)) <;> (try (exfalso; omega))
            | (with_reducible refine And.intro (fun h => ?_) ?_) <;> (try (exfalso; omega))
            | ((with_reducible refine and_keep ?_ fun hk => ?_); omega)
            | (simp -dsimp -implicitDefEqProofs [*]))
          refine xloop_view (σ := Nat) (fun j => [(1, .list tt (ints times) times.length), (4, .bool false), (5, Review.lst false l), (6, .val (.map (some bm))), (14, .ptr b 0), (122, Review.lst false l), (123, .int l.length), (124, .int (k : Nat)), (163, .list false (ints (four ++ times)) (four ++ times).length), (164, .int (four ++ times).length), (165, .int (j : Nat))])
            (fun _ => (b, .arr T.apiReview x.enc) :: (bm, m.obj intKey Review.pv) :: st) (fun j => j ≤ (four ++ times).length) (fun j => (four ++ times).length - j) 0 (Nat.zero_le _) ?_ ?_
          · subst ht0
            subst hfour
            refine View.ple (StLe.refl _) fun q hq => ?_
            simp only [List.mem_cons, List.not_mem_nil, or_false] at hq
            rcases hq with rfl | rfl | rfl | rfl | rfl | rfl | rfl | rfl | rfl | rfl | rfl
            all_goals first | exact PLe.refl _ | exact PLe.loose
          intro j hj
          have hwj := wrap_succ (n := j) (by omega)
          clear ht hx
          generalize four ++ times = all at *
          by_cases hja : j < all.length
          · have hget : (ints all)[j]? = some (.int all[j]) := by simp [ints, hja]
            have hget2 : ∀ h : j < (ints all).length, (ints all)[j]'h = .int all[j] := fun h => by simp [ints]
            generalize all[j] = t at *
            by_cases htw : wi t 2097152 = true
            · obtain ⟨g1, g2⟩ := hst t htw
              have ss := standsL_spec false l hsf (by omega) x.no t
              have htr : 0 ≤ t ∧ t < 2097152 := by simpa [wi] using htw
              have hvc := valid_closed hval
              have hse : standsE t x = (decide (x.opened ≤ t) && (decide (x.closed < 0) || decide (t < x.closed))) := by
                unfold standsE
                simp only [hvc]
              rw [g2, g1, hse] at ss
              obtain ⟨t1, t2⟩ := htr
              clear hse hst g1 g2 hvc htw hsf hval
              repeat' (first
                | (with_reducible refine Fresh.intro fun b hb => ?_) <;> (try simp -dsimp -implicitDefEqProofs [*] at hb)
                | (with_reducible refine Rets.xcall (ss _) ?_)
                | (with_reducible refine Rets.xsoft (ss _) ?_)
                | (with_reducible refine xlateCall_of (fun _ => ss _) ?_)
                | (with_reducible refine Lit.imm ?_)
                | ((with_reducible refine Grow.intro ?_ fun b cap hb hc1 hc2 => ?_); omega) <;> (try simp -dsimp -implicitDefEqProofs [*] at hb)
                | (with_reducible refine DrawLate.intro [] ?_)
                | (with_reducible refine Cls_and ?_ ?_)
                | (with_reducible exact Cls.self _ _)
                | (with_reducible refine Cls_same ?_)
                | (with_reducible refine Cls_in ?_ ?_)
                | (with_reducible refine Cls_fresh ?_ ?_)
                | (with_reducible refine And.intro (fun h => ?_) (fun h => ?_)) <;> (try (exfalso; omega))
                | (with_reducible refine And.intro (fun h => ?_) ?_) <;> (try (exfalso; omega))
                | ((with_reducible refine and_keep ?_ fun hk => ?_); omega)
                | (simp -dsimp -implicitDefEqProofs [*]))
              all_goals first | (intros; exact Next.intro (j + 1) (by omega) (by omega) (by simp [*]) (by repeat' (first | exact StLe.refl _ | (refine StLe_cons (by simp [*]; done) ?_) | (refine StLe_fresh (by simp [*]; done) ?_)))) | (intros; omega)
            · have htr : ¬ (0 ≤ t ∧ t < 2097152) := by simpa [wi] using htw
              clear hst htw hsf hval
              by_cases t1 : 0 ≤ t
              · have t2 : 2097152 ≤ t := by omega
                clear htr
                repeat' (first
                  | (with_reducible refine Fresh.intro fun b hb => ?_) <;> (try simp -dsimp -implicitDefEqProofs [*] at hb)
                  | (with_reducible refine Lit.imm ?_)
                  | ((with_reducible refine Grow.intro ?_ fun b cap hb hc1 hc2 => ?_); omega) <;> (try simp -dsimp -implicitDefEqProofs [*] at hb)
                  | (with_reducible refine DrawLate.intro [] ?_)
                  | (with_reducible refine Cls_and ?_ ?_)
                  | (with_reducible exact Cls.self _ _)
                  | (with_reducible refine Cls_same ?_)
                  | (with_reducible refine Cls_in ?_ ?_)
                  | (with_reducible refine Cls_fresh ?_ ?_)
                  | (with_reducible refine And.intro (fun h => ?_) (fun h => ?_)) <;> (try (exfalso; omega))
                  | (with_reducible refine And.intro (fun h => ?_) ?_) <;> (try (exfalso; omega))
                  | ((with_reducible refine and_keep ?_ fun hk => ?_); omega)
                  | (simp -dsimp -implicitDefEqProofs [*]))
                all_goals first | (intros; exact Next.intro (j + 1) (by omega) (by omega) (by simp [*]) (by repeat' (first | exact StLe.refl _ | (refine StLe_cons (by simp [*]; done) ?_) | (refine StLe_fresh (by simp [*]; done) ?_)))) | (intros; omega)
              · clear htr
                repeat' (first
                  | (with_reducible refine Fresh.intro fun b hb => ?_) <;> (try simp -dsimp -implicitDefEqProofs [*] at hb)
                  | (with_reducible refine Lit.imm ?_)
                  | ((with_reducible refine Grow.intro ?_ fun b cap hb hc1 hc2 => ?_); omega) <;> (try simp -dsimp -implicitDefEqProofs [*] at hb)
                  | (with_reducible refine DrawLate.intro [] ?_)
                  | (with_reducible refine Cls_and ?_ ?_)
                  | (with_reducible exact Cls.self _ _)
                  | (with_reducible refine Cls_same ?_)
                  | (with_reducible refine Cls_in ?_ ?_)
                  | (with_reducible refine Cls_fresh ?_ ?_)
                  | (with_reducible refine And.intro (fun h => ?_) (fun h => ?_)) <;> (try (exfalso; omega))
                  | (with_reducible refine And.intro (fun h => ?_) ?_) <;> (try (exfalso; omega))
                  | ((with_reducible refine and_keep ?_ fun hk => ?_); omega)
                  | (simp -dsimp -implicitDefEqProofs [*]))
                all_goals first | (intros; exact Next.intro (j + 1) (by omega) (by omega) (by simp [*]) (by repeat' (first | exact StLe.refl _ | (refine StLe_cons (by simp [*]; done) ?_) | (refine StLe_fresh (by simp [*]; done) ?_)))) | (intros; omega)
          · clear hst hsf hval
            repeat' (first
              | (with_reducible refine Fresh.intro fun b hb => ?_) <;> (try simp -dsimp -implicitDefEqProofs [*] at hb)
              | (with_reducible refine Lit.imm ?_)
              | ((with_reducible refine Grow.intro ?_ fun b cap hb hc1 hc2 => ?_); omega) <;> (try simp -dsimp -implicitDefEqProofs [*] at hb)
              | (with_reducible refine DrawLate.intro [] ?_)
              | (with_reducible refine Cls_and ?_ ?_)
              | (with_reducible exact Cls.self _ _)
              | (with_reducible refine Cls_same ?_)
              | (with_reducible refine Cls_in ?_ ?_)
              | (with_reducible refine Cls_fresh ?_ ?_)
              | (with_reducible refine And.intro (fun h => ?_) (fun h => ?_)) <;> (try (exfalso; omega))
              | (with_reducible refine And.intro (fun h => ?_) ?_) <;> (try (exfalso; omega))
              | ((with_reducible refine and_keep ?_ fun hk => ?_); omega)
              | (simp -dsimp -implicitDefEqProofs [*]))
            all_goals exact Next.intro (k + 1) (by omega) (by omega) (by simp [*]) (by repeat' (first | exact StLe.refl _ | (refine StLe_cons (by simp [*]; done) ?_) | (refine StLe_fresh (by simp [*]; done) ?_)))
        · repeat' (first
            | (with_reducible refine Fresh.intro fun b hb => ?_) <;> (try simp -dsimp -implicitDefEqProofs [*] at hb)
            | (with_reducible refine Lit.imm ?_)
            | ((with_reducible refine Grow.intro ?_ fun b cap hb hc1 hc2 => ?_); omega) <;> (try simp -dsimp -implicitDefEqProofs [*] at hb)
            | (with_reducible refine DrawLate.intro [] ?_)
            | (with_reducible refine Cls_and ?_ ?_)
            | (with_reducible exact Cls.self _ _)
            | (with_reducible refine Cls_same ?_)
            | (with_reducible refine Cls_in ?_ ?_)
            | (with_reducible refine Cls_fresh ?_ ?_)
            | (with_reducible refine And.intro (fun h => ?_) (fun h => ?_)) <;> (try (exfalso; omega))
            | (with_reducible refine And.intro (fun h => ?_) ?_) <;> (try (exfalso; omega))
            | ((with_reducible refine and_keep ?_ fun hk => ?_); omega)
            | (simp -dsimp -implicitDefEqProofs [*]))
          rename_i b14 hb14
          refine xloop_view (σ := Nat) (fun j => [(1, .list tt (ints times) times.length), (4, .bool false), (5, Review.lst false l), (6, .val (.map (some bm))), (14, .ptr b14 0), (122, Review.lst false l), (123, .int l.length), (124, .int (k : Nat)), (163, .list false (ints (four ++ times)) (four ++ times).length), (164, .int (four ++ times).length), (165, .int (j : Nat))])
            (fun _ => (b14, .arr T.apiReview x.enc) :: (bm, m.obj intKey Review.pv) :: st) (fun j => j ≤ (four ++ times).length) (fun j => (four ++ times).length - j) 0 (Nat.zero_le _) ?_ ?_
          · have hn : (four ++ times).length = 4 + times.length := by rw [List.length_append, hall4]
            rw [hn]
            refine View.frz (b := b) (st' := (b14, .arr T.apiReview x.enc) :: (bm, m.obj intKey Review.pv) :: st) (by simp [*]) (StLe.refl _) fun q hq => ?_
            have hown := Frz.own (b := b) (o := .arr T.int (ints (four ++ times) ++ List.replicate (cap - (4 + times.length)) PV.any)) T.int _ 0 (4 + times.length) cap 1 rfl hc1 hc2
            rw [List.drop_zero, Nat.mul_one, List.take_left' (by rw [ints_len, hn])] at hown
            simp only [List.mem_cons, List.not_mem_nil, or_false] at hq
            subst hfour
            rcases hq with rfl | rfl | rfl | rfl | rfl | rfl | rfl | rfl | rfl | rfl | rfl
            all_goals first | exact Frz.refl _ | exact hown | exact Frz.of_eq (by simp [eget])
          intro j hj
          have hwj := wrap_succ (n := j) (by omega)
          clear ht hx
          generalize four ++ times = all at *
          by_cases hja : j < all.length
          · have hget : (ints all)[j]? = some (.int all[j]) := by simp [ints, hja]
            have hget2 : ∀ h : j < (ints all).length, (ints all)[j]'h = .int all[j] := fun h => by simp [ints]
            generalize all[j] = t at *
            by_cases htw : wi t 2097152 = true
            · obtain ⟨g1, g2⟩ := hst t htw
              have ss := standsL_spec false l hsf (by omega) x.no t
              have htr : 0 ≤ t ∧ t < 2097152 := by simpa [wi] using htw
              have hvc := valid_closed hval
              have hse : standsE t x = (decide (x.opened ≤ t) && (decide (x.closed < 0) || decide (t < x.closed))) := by
                unfold standsE
                simp only [hvc]
              rw [g2, g1, hse] at ss
              obtain ⟨t1, t2⟩ := htr
              clear hse hst g1 g2 hvc htw hsf hval
              repeat' (first
                | (with_reducible refine Fresh.intro fun b hb => ?_) <;> (try simp -dsimp -implicitDefEqProofs [*] at hb)
                | (with_reducible refine Rets.xcall (ss _) ?_)
                | (with_reducible refine Rets.xsoft (ss _) ?_)
                | (with_reducible refine xlateCall_of (fun _ => ss _) ?_)
                | (with_reducible refine Lit.imm ?_)
                | ((with_reducible refine Grow.intro ?_ fun b cap hb hc1 hc2 => ?_); omega) <;> (try simp -dsimp -implicitDefEqProofs [*] at hb)
                | (with_reducible refine DrawLate.intro [] ?_)
                | (with_reducible refine Cls_and ?_ ?_)
                | (with_reducible exact Cls.self _ _)
                | (with_reducible refine Cls_same ?_)
                | (with_reducible refine Cls_in ?_ ?_)
                | (with_reducible refine Cls_fresh ?_ ?_)
                | (with_reducible refine And.intro (fun h => ?_) (fun h => ?_)) <;> (try (exfalso; omega))
                | (with_reducible refine And.intro (fun h => ?_) ?_) <;> (try (exfalso; omega))
                | ((with_reducible refine and_keep ?_ fun hk => ?_); omega)
                | (simp -dsimp -implicitDefEqProofs [*]))
              all_goals first | (intros; exact Next.intro (j + 1) (by omega) (by omega) (by simp [*]) (by repeat' (first | exact StLe.refl _ | (refine StLe_cons (by simp [*]; done) ?_) | (refine StLe_fresh (by simp [*]; done) ?_)))) | (intros; omega)
            · have htr : ¬ (0 ≤ t ∧ t < 2097152) := by simpa [wi] using htw
              clear hst htw hsf hval
              by_cases t1 : 0 ≤ t
              · have t2 : 2097152 ≤ t := by omega
                clear htr
                repeat' (first
                  | (with_reducible refine Fresh.intro fun b hb => ?_) <;> (try simp -dsimp -implicitDefEqProofs [*] at hb)
                  | (with_reducible refine Lit.imm ?_)
                  | ((with_reducible refine Grow.intro ?_ fun b cap hb hc1 hc2 => ?_); omega) <;> (try simp -dsimp -implicitDefEqProofs [*] at hb)
                  | (with_reducible refine DrawLate.intro [] ?_)
                  | (with_reducible refine Cls_and ?_ ?_)
                  | (with_reducible exact Cls.self _ _)
                  | (with_reducible refine Cls_same ?_)
                  | (with_reducible refine Cls_in ?_ ?_)
                  | (with_reducible refine Cls_fresh ?_ ?_)
                  | (with_reducible refine And.intro (fun h => ?_) (fun h => ?_)) <;> (try (exfalso; omega))
                  | (with_reducible refine And.intro (fun h => ?_) ?_) <;> (try (exfalso; omega))
                  | ((with_reducible refine and_keep ?_ fun hk => ?_); omega)
                  | (simp -dsimp -implicitDefEqProofs [*]))
                all_goals first | (intros; exact Next.intro (j + 1) (by omega) (by omega) (by simp [*]) (by repeat' (first | exact StLe.refl _ | (refine StLe_cons (by simp [*]; done) ?_) | (refine StLe_fresh (by simp [*]; done) ?_)))) | (intros; omega)
              · clear htr
                repeat' (first
                  | (with_reducible refine Fresh.intro fun b hb => ?_) <;> (try simp -dsimp -implicitDefEqProofs [*] at hb)
                  | (with_reducible refine Lit.imm ?_)
                  | ((with_reducible refine Grow.intro ?_ fun b cap hb hc1 hc2 => ?_); omega) <;> (try simp -dsimp -implicitDefEqProofs [*] at hb)
                  | (with_reducible refine DrawLate.intro [] ?_)
                  | (with_reducible refine Cls_and ?_ ?_)
                  | (with_reducible exact Cls.self _ _)
                  | (with_reducible refine Cls_same ?_)
                  | (with_reducible refine Cls_in ?_ ?_)
                  | (with_reducible refine Cls_fresh ?_ ?_)
                  | (with_reducible refine And.intro (fun h => ?_) (fun h => ?_)) <;> (try (exfalso; omega))
                  | (with_reducible refine And.intro (fun h => ?_) ?_) <;> (try (exfalso; omega))
                  | ((with_reducible refine and_keep ?_ fun hk => ?_); omega)
                  | (simp -dsimp -implicitDefEqProofs [*]))
                all_goals first | (intros; exact Next.intro (j + 1) (by omega) (by omega) (by simp [*]) (by repeat' (first | exact StLe.refl _ | (refine StLe_cons (by simp [*]; done) ?_) | (refine StLe_fresh (by simp [*]; done) ?_)))) | (intros; omega)
          · clear hst hsf hval
            repeat' (first
              | (with_reducible refine Fresh.intro fun b hb => ?_) <;> (try simp -dsimp -implicitDefEqProofs [*] at hb)
              | (with_reducible refine Lit.imm ?_)
              | ((with_reducible refine Grow.intro ?_ fun b cap hb hc1 hc2 => ?_); omega) <;> (try simp -dsimp -implicitDefEqProofs [*] at hb)
              | (with_reducible refine DrawLate.intro [] ?_)
              | (with_reducible refine Cls_and ?_ ?_)
              | (with_reducible exact Cls.self _ _)
              | (with_reducible refine Cls_same ?_)
              | (with_reducible refine Cls_in ?_ ?_)
              | (with_reducible refine Cls_fresh ?_ ?_)
              | (with_reducible refine And.intro (fun h => ?_) (fun h => ?_)) <;> (try (exfalso; omega))
              | (with_reducible refine And.intro (fun h => ?_) ?_) <;> (try (exfalso; omega))
              | ((with_reducible refine and_keep ?_ fun hk => ?_); omega)
              | (simp -dsimp -implicitDefEqProofs [*]))
            all_goals exact Next.intro (k + 1) (by omega) (by omega) (by simp [*]) (by repeat' (first | exact StLe.refl _ | (refine StLe_cons (by simp [*]; done) ?_) | (refine StLe_fresh (by simp [*]; done) ?_)))
    · repeat' (first
        | (with_reducible refine Fresh.intro fun b hb => ?_) <;> (try simp -dsimp -implicitDefEqProofs [*] at hb)
        | (with_reducible refine Lit.imm ?_)
        | ((with_reducible refine Grow.intro ?_ fun b cap hb hc1 hc2 => ?_); omega) <;> (try simp -dsimp -implicitDefEqProofs [*] at hb)
        | (with_reducible refine DrawLate.intro [] ?_)
        | (with_reducible refine Cls_and ?_ ?_)
        | (with_reducible exact Cls.self _ _)
        | (with_reducible refine Cls_same ?_)
        | (with_reducible refine Cls_in ?_ ?_)
        | (with_reducible refine Cls_fresh ?_ ?_)
        | (with_reducible refine And.intro (fun h => ?_) (fun h => ?_)) <;> (try (exfalso; omega))
        | (with_reducible refine And.intro (fun h => ?_) ?_) <;> (try (exfalso; omega))
        | ((with_reducible refine and_keep ?_ fun hk => ?_); omega)
        | (simp -dsimp -implicitDefEqProofs [*]))
end Go.Proofs.Ytbjfmedpaohpnaa
