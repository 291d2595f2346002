/- Sorting Events: merging. -/
import Derived.Test.YthkjdppifnmakaaS51H
namespace Go.Proofs.Ythkjdppifnmakaa
open Go.Pv
set_option maxRecDepth 100000
set_option maxHeartbeats 4000000
namespace SortEvent
section
variable {C : List PV} {b cap N : Nat}
/-- The middle of two indexes. -/
theorem mid_of {i j : Nat} (h : i + j ≤ 200000) : ∃ m : Nat, IntKind.i64.wrap ((i : Int) + j) = (i : Int) + j ∧ IntKind.u64.wrap ((i : Int) + j) = (i : Int) + j ∧ IntKind.i64.wrap (((i : Int) + j).fdiv (2 ^ min 1 IntKind.u64.bits)) = (m : Int) ∧ m = (i + j) / 2 :=
  ⟨(i + j) / 2, wrap_in (by omega) (by omega), u64_in (by omega) (by omega), mid_eq (by omega), rfl⟩
theorem mrg_one {l l2 X B Y : List Event} {u : Event} (hN : l.length = N) (hN2 : N ≤ 100000) {x m y : Nat} (hl : l = X ++ [u] ++ B ++ Y) (hl2 : l2 = X ++ srt key ([u] ++ B) ++ Y) (hX : X.length = x) (hm : x + 1 = m) (hy : m + B.length = y) (hB0 : 0 < B.length) (hB : Srtd key B) (st : Store) :
    Does P F.slices_symMergeCmpFunc__apiEvent [.own b 0 N cap, .int (x : Nat), .int (m : Nat), .int (y : Nat), cmpF] ((b, rowO l C) :: st) (.tuple []) ((b, rowO l2 C) :: st) := by
  have hyN : y ≤ N := by
    have := congrArg List.length hl
    simp at this
    omega
  have hw1 : IntKind.i64.wrap ((m : Int) - x) = 1 := by rw [wrap_in (by omega) (by omega)]; omega
  refine H.slices_symMergeCmpFunc__apiEvent.view hmix rfl rfl ?_
  have h0 : Hid (l = X ++ [u] ++ B ++ Y) := ⟨hl⟩
  have h2 : Hid (l2 = X ++ srt key ([u] ++ B) ++ Y) := ⟨hl2⟩
  obtain ⟨a1, a2⟩ := at_mid (l := l) (P := X) (z := u) (R := B ++ Y) (i := x) (by rw [hl]; simp) hX
  clear hl hl2
  repeat' (first
    | (with_reducible refine Fresh.intro fun b hb => ?_) <;> (try simp -dsimp -implicitDefEqProofs [*] at hb)
    | (with_reducible refine Lit.imm ?_)
    | ((with_reducible refine Grow.intro ?_ fun b cap hb hc1 hc2 => ?_); omega) <;> (try simp -dsimp -implicitDefEqProofs [*] at hb)
    | (with_reducible refine DrawLate.intro [] ?_)
    | (with_reducible refine Cls_and ?_ ?_)
    | (with_reducible exact Cls.self _ _)
    | (with_reducible refine Cls_same ?_)
    | (with_reducible refine Cls_in ?_ ?_)
    | (with_reducible refine Cls_fresh ?_ ?_)
    | (with_reducible refine And.intro (fun h => ?_) (fun h => ?_)) <;> (try (exfalso; omega))
    | (with_reducible refine And.intro (fun h => ?_) ?_) <;> (try (exfalso; omega))
    | ((with_reducible refine and_keep ?_ fun hk => ?_); omega)
    | (simp -dsimp -implicitDefEqProofs [*]))
  refine xloop_for (fun s : Nat × Nat => [(0, .own b 0 N cap), (1, .int (x : Nat)), (4, cmpF), (10, .int (s.1 : Nat)), (11, .int (s.2 : Nat))]) (fun _ => (b, rowO l C) :: st)
    (fun s => Src (fun e => key e < key u) (fun e => key u ≤ key e) B m s.1 s.2) (fun s => s.2 - s.1) (m, y) (Src.init hy) (by simp) (by simp) ?_
  rintro ⟨i, j⟩ hs
  simp only at hs
  have hle := hs.le
  obtain ⟨h, w1, w2, w3, hh⟩ := mid_of (i := i) (j := j) (by omega)
  have w5 := wrap_succ (n := h) (by omega)
  by_cases hij : i < j
  · obtain ⟨z, z1, z2, z3, z4⟩ := hs.step (h := h) (X := X ++ [u]) (Y := Y) (l := l) h0.out (by simp; omega) hB (fun a b h1 h2 => by omega) (fun a b h1 h2 => by omega) (by omega) (by omega)
    have hh2 : i ≤ h ∧ h < j := by omega
    clear hh hX hm hw1
    repeat' (first
      | (with_reducible refine Fresh.intro fun b hb => ?_) <;> (try simp -dsimp -implicitDefEqProofs [*] at hb)
      | (with_reducible refine Rets.xcall (by_spec _ _ _) ?_)
      | (with_reducible refine Rets.xsoft (by_spec _ _ _) ?_)
      | (with_reducible refine xlateCall_of (fun _ => by_spec _ _ _) ?_)
      | (with_reducible refine Lit.imm ?_)
      | ((with_reducible refine Grow.intro ?_ fun b cap hb hc1 hc2 => ?_); omega) <;> (try simp -dsimp -implicitDefEqProofs [*] at hb)
      | (with_reducible refine DrawLate.intro [] ?_)
      | (with_reducible refine Cls_and ?_ ?_)
      | (with_reducible exact Cls.self _ _)
      | (with_reducible refine Cls_same ?_)
      | (with_reducible refine Cls_in ?_ ?_)
      | (with_reducible refine Cls_fresh ?_ ?_)
      | (with_reducible refine And.intro (fun h => ?_) (fun h => ?_)) <;> (try (exfalso; omega))
      | (with_reducible refine And.intro (fun h => ?_) ?_) <;> (try (exfalso; omega))
      | ((with_reducible refine and_keep ?_ fun hk => ?_); omega)
      | (simp -dsimp -implicitDefEqProofs [*]))
    · exact Next.intro (_, j) (z3 ‹_›) (by simp only; omega) (by simp) (by repeat' (first | exact StLe.refl _ | (refine StLe_cons (by simp [*]; done) ?_) | (refine StLe_fresh (by simp [*]; done) ?_)))
    · exact Next.intro (i, _) (z4 ‹_›) (by simp only; omega) (by simp) (by repeat' (first | exact StLe.refl _ | (refine StLe_cons (by simp [*]; done) ?_) | (refine StLe_fresh (by simp [*]; done) ?_)))
  · obtain ⟨B1, B2, e1, e2, e3, e4⟩ := hs.fin (by omega)
    obtain ⟨i1, hi1⟩ : ∃ i1, i1 = i - 1 := ⟨_, rfl⟩
    have hwi : IntKind.i64.wrap ((i : Int) - 1) = (i1 : Int) := by rw [wrap_in (by omega) (by omega)]; omega
    have hlen2 : X.length + 1 + B1.length + B2.length + Y.length = N := by rw [← hN, h0.out, e1]; simp; omega
    have hB12 : Srtd key (B1 ++ B2) := e1 ▸ hB
    have hres : Hid (l2 = X ++ B1 ++ u :: B2 ++ Y) := ⟨by rw [h2.out, e1, List.singleton_append, ← srt_front hB12 e3 e4]; simp⟩
    have h0' : Hid (l = X ++ B1.take 0 ++ u :: (B1.drop 0 ++ B2 ++ Y)) := ⟨by rw [h0.out, e1]; simp⟩
    have hb1 : i1 = x + B1.length := by omega
    clear e1 e3 e4 hB hB12 h2 h0 w1 w2 w3 w5 hs hh hw1
    repeat' (first
      | (with_reducible refine Fresh.intro fun b hb => ?_) <;> (try simp -dsimp -implicitDefEqProofs [*] at hb)
      | (with_reducible refine Lit.imm ?_)
      | ((with_reducible refine Grow.intro ?_ fun b cap hb hc1 hc2 => ?_); omega) <;> (try simp -dsimp -implicitDefEqProofs [*] at hb)
      | (with_reducible refine DrawLate.intro [] ?_)
      | (with_reducible refine Cls_and ?_ ?_)
      | (with_reducible exact Cls.self _ _)
      | (with_reducible refine Cls_same ?_)
      | (with_reducible refine Cls_in ?_ ?_)
      | (with_reducible refine Cls_fresh ?_ ?_)
      | (with_reducible refine And.intro (fun h => ?_) (fun h => ?_)) <;> (try (exfalso; omega))
      | (with_reducible refine And.intro (fun h => ?_) ?_) <;> (try (exfalso; omega))
      | ((with_reducible refine and_keep ?_ fun hk => ?_); omega)
      | (simp -dsimp -implicitDefEqProofs [*]))
    refine xloop_for (fun s : Nat × List Event => [(0, .own b 0 N cap), (10, .int (i : Nat)), (13, .int (s.1 : Nat))]) (fun s => (b, rowO s.2 C) :: st)
      (fun s => x ≤ s.1 ∧ s.1 ≤ i1 ∧ s.2.length = N ∧ s.2 = X ++ B1.take (s.1 - x) ++ u :: (B1.drop (s.1 - x) ++ B2 ++ Y)) (fun s => i1 - s.1) (x, l) ⟨Nat.le_refl _, by simp only; omega, hN, by simpa using h0'.out⟩ (by simp) (by simp) ?_
    rintro ⟨k, l'⟩ ⟨hk1, hk2, hlen', hl'⟩
    simp only at hk1 hk2 hlen' hl'
    by_cases hki : k < i1
    · obtain ⟨v, c1, c2⟩ := cut_at (A := B1) (i := k - x) (by omega)
      obtain ⟨q, hq⟩ : ∃ q, q = k + 1 := ⟨_, rfl⟩
      have hwq : IntKind.i64.wrap ((k : Int) + 1) = (q : Int) := by rw [hq, wrap_succ (by omega)]; omega
      obtain ⟨h1, h2, h3, h4, h5, h6⟩ := swap2 (l := l') (P := X ++ B1.take (k - x)) (x := u) (Q := []) (y := v) (R := B1.drop (k - x + 1) ++ B2 ++ Y) (i := k) (j := q) (by rw [hl', c1]; simp) (by simp; omega) (by simp; omega)
      have hfin : Hid ((l'.set k v).set q u = X ++ B1.take (q - x) ++ u :: (B1.drop (q - x) ++ B2 ++ Y)) := ⟨by rw [h3, show q - x = k - x + 1 by omega, c2]; simp⟩
      have hqk : k < q ∧ x ≤ q ∧ q ≤ i1 := by omega
      clear hl' c1 c2 h3 h4 hq hX hm hb1 hlen2 e2 hij
      generalize hl3 : (l'.set k v).set q u = l3 at *
      have hlen3 : l3.length = N := by rw [← hl3]; simp [hlen']
      repeat' (first
        | (with_reducible refine Fresh.intro fun b hb => ?_) <;> (try simp -dsimp -implicitDefEqProofs [*] at hb)
        | (with_reducible refine Lit.imm ?_)
        | ((with_reducible refine Grow.intro ?_ fun b cap hb hc1 hc2 => ?_); omega) <;> (try simp -dsimp -implicitDefEqProofs [*] at hb)
        | (with_reducible refine Cls_and ?_ ?_)
        | (with_reducible exact Cls.self _ _)
        | (with_reducible refine Cls_same ?_)
        | (with_reducible refine Cls_in ?_ ?_)
        | (with_reducible refine Cls_fresh ?_ ?_)
        | (with_reducible refine And.intro (fun h => ?_) (fun h => ?_)) <;> (try (exfalso; omega))
        | (with_reducible refine And.intro (fun h => ?_) ?_) <;> (try (exfalso; omega))
        | ((with_reducible refine and_keep ?_ fun hk => ?_); omega)
        | (simp -dsimp -implicitDefEqProofs [*]))
      refine DrawLate.intro [b] ?_
      repeat' (first
        | (with_reducible refine Fresh.intro fun b hb => ?_) <;> (try simp -dsimp -implicitDefEqProofs [*] at hb)
        | (with_reducible refine Lit.imm ?_)
        | ((with_reducible refine Grow.intro ?_ fun b cap hb hc1 hc2 => ?_); omega) <;> (try simp -dsimp -implicitDefEqProofs [*] at hb)
        | (with_reducible refine Cls_and ?_ ?_)
        | (with_reducible exact Cls.self _ _)
        | (with_reducible refine Cls_same ?_)
        | (with_reducible refine Cls_in ?_ ?_)
        | (with_reducible refine Cls_fresh ?_ ?_)
        | (with_reducible refine And.intro (fun h => ?_) (fun h => ?_)) <;> (try (exfalso; omega))
        | (with_reducible refine And.intro (fun h => ?_) ?_) <;> (try (exfalso; omega))
        | ((with_reducible refine and_keep ?_ fun hk => ?_); omega)
        | (simp -dsimp -implicitDefEqProofs [*]))
      exact Next.intro (q, l3) ⟨hqk.2.1, hqk.2.2, hlen3, hfin.out⟩ (by simp only; omega) (by simp) (by repeat' (first | exact StLe.refl _ | (refine StLe_cons (by simp [*]; done) ?_) | (refine StLe_fresh (by simp [*]; done) ?_)))
    · have hki2 : k - x = B1.length := by omega
      have e : l' = l2 := by rw [hl', hres.out, hki2]; simp
      clear hl' hb1 hX hm hlen2 e2 hij
      subst e
      repeat' (first
        | (with_reducible refine Fresh.intro fun b hb => ?_) <;> (try simp -dsimp -implicitDefEqProofs [*] at hb)
        | (with_reducible refine Lit.imm ?_)
        | ((with_reducible refine Grow.intro ?_ fun b cap hb hc1 hc2 => ?_); omega) <;> (try simp -dsimp -implicitDefEqProofs [*] at hb)
        | (with_reducible refine DrawLate.intro [] ?_)
        | (with_reducible refine Cls_and ?_ ?_)
        | (with_reducible exact Cls.self _ _)
        | (with_reducible refine Cls_same ?_)
        | (with_reducible refine Cls_in ?_ ?_)
        | (with_reducible refine Cls_fresh ?_ ?_)
        | (with_reducible refine And.intro (fun h => ?_) (fun h => ?_)) <;> (try (exfalso; omega))
        | (with_reducible refine And.intro (fun h => ?_) ?_) <;> (try (exfalso; omega))
        | ((with_reducible refine and_keep ?_ fun hk => ?_); omega)
        | (simp -dsimp -implicitDefEqProofs [*]))
      exact .drop (StLe.refl _) ⟨rfl, rfl⟩
theorem mrg_last {l l2 X A Y : List Event} {u : Event} (hN : l.length = N) (hN2 : N ≤ 100000) {x m y : Nat} (hl : l = X ++ A ++ [u] ++ Y) (hl2 : l2 = X ++ srt key (A ++ [u]) ++ Y) (hX : X.length = x) (hm : x + A.length = m) (hy : m + 1 = y) (hA1 : ¬ A.length = 1) (hA : Srtd key A) (st : Store) :
    Does P F.slices_symMergeCmpFunc__apiEvent [.own b 0 N cap, .int (x : Nat), .int (m : Nat), .int (y : Nat), cmpF] ((b, rowO l C) :: st) (.tuple []) ((b, rowO l2 C) :: st) := by
  have hyN : y ≤ N := by
    have := congrArg List.length hl
    simp at this
    omega
  obtain ⟨pa, hpa⟩ : ∃ pa, pa = A.length := ⟨_, rfl⟩
  have hw1 : IntKind.i64.wrap ((m : Int) - x) = (pa : Int) := by rw [wrap_in (by omega) (by omega)]; omega
  have hpa1 : ¬ (pa : Int) = 1 := by omega
  have hw2 : IntKind.i64.wrap ((y : Int) - m) = 1 := by rw [wrap_in (by omega) (by omega)]; omega
  refine H.slices_symMergeCmpFunc__apiEvent.view hmix rfl rfl ?_
  have h0 : Hid (l = X ++ A ++ [u] ++ Y) := ⟨hl⟩
  have h2 : Hid (l2 = X ++ srt key (A ++ [u]) ++ Y) := ⟨hl2⟩
  obtain ⟨a1, a2⟩ := at_mid (l := l) (P := X ++ A) (z := u) (R := Y) (i := m) (by rw [hl]; simp) (by simp; omega)
  clear hl hl2 hA1 hpa
  repeat' (first
    | (with_reducible refine Fresh.intro fun b hb => ?_) <;> (try simp -dsimp -implicitDefEqProofs [*] at hb)
    | (with_reducible refine Lit.imm ?_)
    | ((with_reducible refine Grow.intro ?_ fun b cap hb hc1 hc2 => ?_); omega) <;> (try simp -dsimp -implicitDefEqProofs [*] at hb)
    | (with_reducible refine DrawLate.intro [] ?_)
    | (with_reducible refine Cls_and ?_ ?_)
    | (with_reducible exact Cls.self _ _)
    | (with_reducible refine Cls_same ?_)
    | (with_reducible refine Cls_in ?_ ?_)
    | (with_reducible refine Cls_fresh ?_ ?_)
    | (with_reducible refine And.intro (fun h => ?_) (fun h => ?_)) <;> (try (exfalso; omega))
    | (with_reducible refine And.intro (fun h => ?_) ?_) <;> (try (exfalso; omega))
    | ((with_reducible refine and_keep ?_ fun hk => ?_); omega)
    | (simp -dsimp -implicitDefEqProofs [*]))
  refine xloop_for (fun s : Nat × Nat => [(0, .own b 0 N cap), (2, .int (m : Nat)), (4, cmpF), (14, .int (s.1 : Nat)), (15, .int (s.2 : Nat))]) (fun _ => (b, rowO l C) :: st)
    (fun s => Src (fun e => key e ≤ key u) (fun e => key u < key e) A x s.1 s.2) (fun s => s.2 - s.1) (x, m) (Src.init hm) (by simp) (by simp) ?_
  rintro ⟨i, j⟩ hs
  simp only at hs
  have hle := hs.le
  obtain ⟨h, w1, w2, w3, hh⟩ := mid_of (i := i) (j := j) (by omega)
  have w5 := wrap_succ (n := h) (by omega)
  by_cases hij : i < j
  · obtain ⟨z, z1, z2, z3, z4⟩ := hs.step (h := h) (X := X) (Y := [u] ++ Y) (l := l) (by rw [h0.out]; simp) (by omega) hA (fun a b h1 h2 => by omega) (fun a b h1 h2 => by omega) (by omega) (by omega)
    have hh2 : i ≤ h ∧ h < j := by omega
    clear hh hX hm hw1 hw2 hpa1 hy
    repeat' (first
      | (with_reducible refine Fresh.intro fun b hb => ?_) <;> (try simp -dsimp -implicitDefEqProofs [*] at hb)
      | (with_reducible refine Rets.xcall (by_spec _ _ _) ?_)
      | (with_reducible refine Rets.xsoft (by_spec _ _ _) ?_)
      | (with_reducible refine xlateCall_of (fun _ => by_spec _ _ _) ?_)
      | (with_reducible refine Lit.imm ?_)
      | ((with_reducible refine Grow.intro ?_ fun b cap hb hc1 hc2 => ?_); omega) <;> (try simp -dsimp -implicitDefEqProofs [*] at hb)
      | (with_reducible refine DrawLate.intro [] ?_)
      | (with_reducible refine Cls_and ?_ ?_)
      | (with_reducible exact Cls.self _ _)
      | (with_reducible refine Cls_same ?_)
      | (with_reducible refine Cls_in ?_ ?_)
      | (with_reducible refine Cls_fresh ?_ ?_)
      | (with_reducible refine And.intro (fun h => ?_) (fun h => ?_)) <;> (try (exfalso; omega))
      | (with_reducible refine And.intro (fun h => ?_) ?_) <;> (try (exfalso; omega))
      | ((with_reducible refine and_keep ?_ fun hk => ?_); omega)
      | (simp -dsimp -implicitDefEqProofs [*]))
    · exact Next.intro (i, _) (z4 ‹_›) (by simp only; omega) (by simp) (by repeat' (first | exact StLe.refl _ | (refine StLe_cons (by simp [*]; done) ?_) | (refine StLe_fresh (by simp [*]; done) ?_)))
    · exact Next.intro (_, j) (z3 ‹_›) (by simp only; omega) (by simp) (by repeat' (first | exact StLe.refl _ | (refine StLe_cons (by simp [*]; done) ?_) | (refine StLe_fresh (by simp [*]; done) ?_)))
  · obtain ⟨A1, A2, e1, e2, e3, e4⟩ := hs.fin (by omega)
    have hlen2 : X.length + A1.length + A2.length + 1 + Y.length = N := by rw [← hN, h0.out, e1]; simp; omega
    have hA12 : Srtd key (A1 ++ A2) := e1 ▸ hA
    have hres : Hid (l2 = X ++ A1 ++ u :: A2 ++ Y) := ⟨by rw [h2.out, e1, ← srt_snoc hA12 e3 e4]; simp⟩
    have hmi : m - i = A2.length := by rw [e1] at hm; simp at hm; omega
    have him : i ≤ m := by omega
    have h0' : Hid (l = X ++ A1 ++ A2.take (m - i) ++ u :: (A2.drop (m - i) ++ Y)) := ⟨by rw [h0.out, e1, hmi]; simp⟩
    clear e1 e3 e4 hA hA12 h2 h0 w1 w2 w3 w5 hs hh hw1 hw2 hpa1 hm
    repeat' (first
      | (with_reducible refine Fresh.intro fun b hb => ?_) <;> (try simp -dsimp -implicitDefEqProofs [*] at hb)
      | (with_reducible refine Lit.imm ?_)
      | ((with_reducible refine Grow.intro ?_ fun b cap hb hc1 hc2 => ?_); omega) <;> (try simp -dsimp -implicitDefEqProofs [*] at hb)
      | (with_reducible refine DrawLate.intro [] ?_)
      | (with_reducible refine Cls_and ?_ ?_)
      | (with_reducible exact Cls.self _ _)
      | (with_reducible refine Cls_same ?_)
      | (with_reducible refine Cls_in ?_ ?_)
      | (with_reducible refine Cls_fresh ?_ ?_)
      | (with_reducible refine And.intro (fun h => ?_) (fun h => ?_)) <;> (try (exfalso; omega))
      | (with_reducible refine And.intro (fun h => ?_) ?_) <;> (try (exfalso; omega))
      | ((with_reducible refine and_keep ?_ fun hk => ?_); omega)
      | (simp -dsimp -implicitDefEqProofs [*]))
    refine xloop_for (fun s : Nat × List Event => [(0, .own b 0 N cap), (14, .int (i : Nat)), (17, .int (s.1 : Nat))]) (fun s => (b, rowO s.2 C) :: st)
      (fun s => i ≤ s.1 ∧ s.1 ≤ m ∧ s.2.length = N ∧ s.2 = X ++ A1 ++ A2.take (s.1 - i) ++ u :: (A2.drop (s.1 - i) ++ Y)) (fun s => s.1) (m, l) ⟨him, Nat.le_refl _, hN, h0'.out⟩ (by simp) (by simp) ?_
    rintro ⟨k, l'⟩ ⟨hk1, hk2, hlen', hl'⟩
    simp only at hk1 hk2 hlen' hl'
    by_cases hki : i < k
    · obtain ⟨q, hq⟩ : ∃ q, q = k - 1 := ⟨_, rfl⟩
      obtain ⟨v, c1, c2⟩ := cut_at (A := A2) (i := q - i) (by omega)
      have hwq : IntKind.i64.wrap ((k : Int) - 1) = (q : Int) := by rw [wrap_in (by omega) (by omega)]; omega
      have hqi : q - i + 1 = k - i := by omega
      rw [hqi] at c1 c2
      obtain ⟨h1, h2, h3, h4, h5, h6⟩ := swap2 (l := l') (P := X ++ A1 ++ A2.take (q - i)) (x := v) (Q := []) (y := u) (R := A2.drop (k - i) ++ Y) (i := q) (j := k) (by rw [hl', c2]; simp) (by simp; omega) (by simp; omega)
      have hfin : Hid ((l'.set k v).set q u = X ++ A1 ++ A2.take (q - i) ++ u :: (A2.drop (q - i) ++ Y)) := ⟨by rw [h4, c1]; simp⟩
      have hqk : q < k ∧ i ≤ q ∧ q ≤ m := by omega
      clear hl' c1 c2 h3 h4 hq hX hmi hlen2 e2 hij hqi hy
      generalize hl3 : (l'.set k v).set q u = l3 at *
      have hlen3 : l3.length = N := by rw [← hl3]; simp [hlen']
      repeat' (first
        | (with_reducible refine Fresh.intro fun b hb => ?_) <;> (try simp -dsimp -implicitDefEqProofs [*] at hb)
        | (with_reducible refine Lit.imm ?_)
        | ((with_reducible refine Grow.intro ?_ fun b cap hb hc1 hc2 => ?_); omega) <;> (try simp -dsimp -implicitDefEqProofs [*] at hb)
        | (with_reducible refine Cls_and ?_ ?_)
        | (with_reducible exact Cls.self _ _)
        | (with_reducible refine Cls_same ?_)
        | (with_reducible refine Cls_in ?_ ?_)
        | (with_reducible refine Cls_fresh ?_ ?_)
        | (with_reducible refine And.intro (fun h => ?_) (fun h => ?_)) <;> (try (exfalso; omega))
        | (with_reducible refine And.intro (fun h => ?_) ?_) <;> (try (exfalso; omega))
        | ((with_reducible refine and_keep ?_ fun hk => ?_); omega)
        | (simp -dsimp -implicitDefEqProofs [*]))
      refine DrawLate.intro [b] ?_
      repeat' (first
        | (with_reducible refine Fresh.intro fun b hb => ?_) <;> (try simp -dsimp -implicitDefEqProofs [*] at hb)
        | (with_reducible refine Lit.imm ?_)
        | ((with_reducible refine Grow.intro ?_ fun b cap hb hc1 hc2 => ?_); omega) <;> (try simp -dsimp -implicitDefEqProofs [*] at hb)
        | (with_reducible refine Cls_and ?_ ?_)
        | (with_reducible exact Cls.self _ _)
        | (with_reducible refine Cls_same ?_)
        | (with_reducible refine Cls_in ?_ ?_)
        | (with_reducible refine Cls_fresh ?_ ?_)
        | (with_reducible refine And.intro (fun h => ?_) (fun h => ?_)) <;> (try (exfalso; omega))
        | (with_reducible refine And.intro (fun h => ?_) ?_) <;> (try (exfalso; omega))
        | ((with_reducible refine and_keep ?_ fun hk => ?_); omega)
        | (simp -dsimp -implicitDefEqProofs [*]))
      exact Next.intro (q, l3) ⟨hqk.2.1, hqk.2.2, hlen3, hfin.out⟩ (by simp only; omega) (by simp) (by repeat' (first | exact StLe.refl _ | (refine StLe_cons (by simp [*]; done) ?_) | (refine StLe_fresh (by simp [*]; done) ?_)))
    · have hki2 : k - i = 0 := by omega
      have e : l' = l2 := by rw [hl', hres.out, hki2]; simp
      clear hl' hmi hX hlen2 e2 hij hy
      subst e
      repeat' (first
        | (with_reducible refine Fresh.intro fun b hb => ?_) <;> (try simp -dsimp -implicitDefEqProofs [*] at hb)
        | (with_reducible refine Lit.imm ?_)
        | ((with_reducible refine Grow.intro ?_ fun b cap hb hc1 hc2 => ?_); omega) <;> (try simp -dsimp -implicitDefEqProofs [*] at hb)
        | (with_reducible refine DrawLate.intro [] ?_)
        | (with_reducible refine Cls_and ?_ ?_)
        | (with_reducible exact Cls.self _ _)
        | (with_reducible refine Cls_same ?_)
        | (with_reducible refine Cls_in ?_ ?_)
        | (with_reducible refine Cls_fresh ?_ ?_)
        | (with_reducible refine And.intro (fun h => ?_) (fun h => ?_)) <;> (try (exfalso; omega))
        | (with_reducible refine And.intro (fun h => ?_) ?_) <;> (try (exfalso; omega))
        | ((with_reducible refine and_keep ?_ fun hk => ?_); omega)
        | (simp -dsimp -implicitDefEqProofs [*]))
      exact .drop (StLe.refl _) ⟨rfl, rfl⟩
end
end SortEvent
end Go.Proofs.Ythkjdppifnmakaa
