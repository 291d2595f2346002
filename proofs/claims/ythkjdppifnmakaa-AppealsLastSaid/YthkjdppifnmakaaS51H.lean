/- Sorting Events: swaps, rotations. -/
import Derived.Test.YthkjdppifnmakaaS51F
namespace Go.Proofs.Ythkjdppifnmakaa
open Go.Pv
set_option maxRecDepth 100000
namespace SortEvent
theorem swapRange_spec {l l2 X A M B Y : List Event} {C : List PV} {b cap N x y n : Nat} (hN : l.length = N) (hN2 : N ≤ 100000) (hl : l = X ++ A ++ M ++ B ++ Y) (hl2 : l2 = X ++ B ++ M ++ A ++ Y)
    (hX : X.length = x) (hA : A.length = n) (hB : B.length = n) (hM : x + n + M.length = y) (st : Store) :
    Does P F.slices_swapRangeCmpFunc__apiEvent [.own b 0 N cap, .int (x : Nat), .int (y : Nat), .int (n : Nat), cmpF] ((b, rowO l C) :: st) (.tuple []) ((b, rowO l2 C) :: st) := by
  have hlen : x + n + M.length + n + Y.length = N := by rw [← hN, hl]; simp; omega
  have h0 : Hid (l = X ++ (B.take 0 ++ A.drop 0) ++ M ++ (A.take 0 ++ B.drop 0) ++ Y) := ⟨by simp [hl]⟩
  clear hl
  refine H.slices_swapRangeCmpFunc__apiEvent.view hmix rfl rfl ?_
  repeat' (first
    | (with_reducible refine Fresh.intro fun b hb => ?_) <;> (try simp -dsimp -implicitDefEqProofs [*] at hb)
    | (with_reducible refine Lit.imm ?_)
    | ((with_reducible refine Grow.intro ?_ fun b cap hb hc1 hc2 => ?_); omega) <;> (try simp -dsimp -implicitDefEqProofs [*] at hb)
    | (with_reducible refine DrawLate.intro [] ?_)
    | (with_reducible refine Cls_and ?_ ?_)
    | (with_reducible exact Cls.self _ _)
    | (with_reducible refine Cls_same ?_)
    | (with_reducible refine Cls_in ?_ ?_)
    | (with_reducible refine Cls_fresh ?_ ?_)
    | (with_reducible refine And.intro (fun h => ?_) (fun h => ?_)) <;> (try (exfalso; omega))
    | (with_reducible refine And.intro (fun h => ?_) ?_) <;> (try (exfalso; omega))
    | ((with_reducible refine and_keep ?_ fun hk => ?_); omega)
    | (simp -dsimp -implicitDefEqProofs [*]))
  refine xloop_for (fun s : Nat × List Event => [(0, .own b 0 N cap), (1, .int (x : Nat)), (2, .int (y : Nat)), (3, .int (n : Nat)), (10, .int (s.1 : Nat))]) (fun s => (b, rowO s.2 C) :: st)
    (fun s => s.1 ≤ n ∧ s.2.length = N ∧ s.2 = X ++ (B.take s.1 ++ A.drop s.1) ++ M ++ (A.take s.1 ++ B.drop s.1) ++ Y) (fun s => n - s.1) (0, l) ?_ ?_ ?_ ?_
  · exact ⟨Nat.zero_le _, hN, h0.out⟩
  · simp
  · simp
  rintro ⟨i, l'⟩ ⟨hi, hlen', hl'⟩
  simp only at hi hlen' hl'
  have hw := wrap_succ (n := i) (by omega)
  by_cases hin : i < n
  · obtain ⟨p, hp⟩ : ∃ p, p = x + i := ⟨_, rfl⟩
    obtain ⟨q, hq⟩ : ∃ q, q = y + i := ⟨_, rfl⟩
    have hwp : IntKind.i64.wrap ((x : Int) + i) = (p : Int) := by rw [hp]; exact wrap_in (by omega) (by omega)
    have hwq : IntKind.i64.wrap ((y : Int) + i) = (q : Int) := by rw [hq]; exact wrap_in (by omega) (by omega)
    obtain ⟨u, hAi, hAt⟩ := cut_at (A := A) (i := i) (by omega)
    obtain ⟨v, hBi, hBt⟩ := cut_at (A := B) (i := i) (by omega)
    have hs := swap2 (l := l') (P := X ++ B.take i) (x := u) (Q := A.drop (i + 1) ++ M ++ A.take i) (y := v) (R := B.drop (i + 1) ++ Y) (i := p) (j := q) (by rw [hl', hAi, hBi]; simp) (by simp; omega) (by simp; omega)
    obtain ⟨h1, h2, h3, h4, h5, h6⟩ := hs
    have hfin : Hid ((l'.set p v).set q u = X ++ (B.take (i + 1) ++ A.drop (i + 1)) ++ M ++ (A.take (i + 1) ++ B.drop (i + 1)) ++ Y) := ⟨by rw [h3, hAt, hBt]; simp⟩
    clear hl2 hl' hAi hBi hAt hBt h3 h4 h0 hp hq
    generalize hl3 : (l'.set p v).set q u = l3 at *
    have hlen3 : l3.length = N := by rw [← hl3]; simp [hlen']
    repeat' (first
      | (with_reducible refine Fresh.intro fun b hb => ?_) <;> (try simp -dsimp -implicitDefEqProofs [*] at hb)
      | (with_reducible refine Lit.imm ?_)
      | ((with_reducible refine Grow.intro ?_ fun b cap hb hc1 hc2 => ?_); omega) <;> (try simp -dsimp -implicitDefEqProofs [*] at hb)
      | (with_reducible refine Cls_and ?_ ?_)
      | (with_reducible exact Cls.self _ _)
      | (with_reducible refine Cls_same ?_)
      | (with_reducible refine Cls_in ?_ ?_)
      | (with_reducible refine Cls_fresh ?_ ?_)
      | (with_reducible refine And.intro (fun h => ?_) (fun h => ?_)) <;> (try (exfalso; omega))
      | (with_reducible refine And.intro (fun h => ?_) ?_) <;> (try (exfalso; omega))
      | ((with_reducible refine and_keep ?_ fun hk => ?_); omega)
      | (simp -dsimp -implicitDefEqProofs [*]))
    refine DrawLate.intro [b] ?_
    repeat' (first
      | (with_reducible refine Fresh.intro fun b hb => ?_) <;> (try simp -dsimp -implicitDefEqProofs [*] at hb)
      | (with_reducible refine Lit.imm ?_)
      | ((with_reducible refine Grow.intro ?_ fun b cap hb hc1 hc2 => ?_); omega) <;> (try simp -dsimp -implicitDefEqProofs [*] at hb)
      | (with_reducible refine Cls_and ?_ ?_)
      | (with_reducible exact Cls.self _ _)
      | (with_reducible refine Cls_same ?_)
      | (with_reducible refine Cls_in ?_ ?_)
      | (with_reducible refine Cls_fresh ?_ ?_)
      | (with_reducible refine And.intro (fun h => ?_) (fun h => ?_)) <;> (try (exfalso; omega))
      | (with_reducible refine And.intro (fun h => ?_) ?_) <;> (try (exfalso; omega))
      | ((with_reducible refine and_keep ?_ fun hk => ?_); omega)
      | (simp -dsimp -implicitDefEqProofs [*]))
    exact Next.intro (i + 1, l3) ⟨by simp only; omega, hlen3, hfin.out⟩ (by simp only; omega) (by simp) (by repeat' (first | exact StLe.refl _ | (refine StLe_cons (by simp [*]; done) ?_) | (refine StLe_fresh (by simp [*]; done) ?_)))
  · have : i = n := by omega
    subst this
    have e : l' = l2 := by rw [hl', hl2, List.take_of_length_le (by omega), List.take_of_length_le (by omega), List.drop_of_length_le (by omega), List.drop_of_length_le (by omega)]; simp
    clear hl2 hl' h0
    subst e
    repeat' (first
      | (with_reducible refine Fresh.intro fun b hb => ?_) <;> (try simp -dsimp -implicitDefEqProofs [*] at hb)
      | (with_reducible refine Lit.imm ?_)
      | ((with_reducible refine Grow.intro ?_ fun b cap hb hc1 hc2 => ?_); omega) <;> (try simp -dsimp -implicitDefEqProofs [*] at hb)
      | (with_reducible refine DrawLate.intro [] ?_)
      | (with_reducible refine Cls_and ?_ ?_)
      | (with_reducible exact Cls.self _ _)
      | (with_reducible refine Cls_same ?_)
      | (with_reducible refine Cls_in ?_ ?_)
      | (with_reducible refine Cls_fresh ?_ ?_)
      | (with_reducible refine And.intro (fun h => ?_) (fun h => ?_)) <;> (try (exfalso; omega))
      | (with_reducible refine And.intro (fun h => ?_) ?_) <;> (try (exfalso; omega))
      | ((with_reducible refine and_keep ?_ fun hk => ?_); omega)
      | (simp -dsimp -implicitDefEqProofs [*]))
    exact .drop (StLe.refl _) ⟨rfl, rfl⟩
/-- What is still to be done. -/
def RotI (l2 l' : List Event) (N m i j : Nat) : Prop := l'.length = N ∧ ∃ P U V Q, l' = P ++ U ++ V ++ Q ∧ l2 = P ++ V ++ U ++ Q ∧ U.length = i ∧ V.length = j ∧ P.length + i = m
theorem rot_gt {l2 l' : List Event} {N m i j : Nat} (h : RotI l2 l' N m i j) (hij : j < i) : ∃ X A M B Y l3, l' = X ++ A ++ M ++ B ++ Y ∧ l3 = X ++ B ++ M ++ A ++ Y ∧ X.length = m - i ∧ A.length = j ∧ B.length = j ∧ m - i + j + M.length = m ∧ l3.length = N ∧ RotI l2 l3 N m (i - j) j := by
  obtain ⟨hN, P, U, V, Q, h1, h2, h3, h4, h5⟩ := h
  obtain ⟨U1, U2, hU, hU1, hU2⟩ := cut_len (A := U) (k := j) (by omega)
  have hlen : (P ++ V ++ U2 ++ U1 ++ Q).length = N := by rw [← hN, h1, hU]; simp; omega
  refine ⟨P, U1, U2, V, Q, _, by rw [h1, hU]; simp, rfl, by omega, hU1, h4, by omega, hlen, hlen, P ++ V, U2, U1, Q, rfl, by rw [h2, hU]; simp, by omega, hU1, by simp; omega⟩
theorem rot_lt {l2 l' : List Event} {N m i j : Nat} (h : RotI l2 l' N m i j) (hij : i < j) : ∃ X A M B Y l3, l' = X ++ A ++ M ++ B ++ Y ∧ l3 = X ++ B ++ M ++ A ++ Y ∧ X.length = m - i ∧ A.length = i ∧ B.length = i ∧ m - i + i + M.length = m + j - i ∧ l3.length = N ∧ RotI l2 l3 N m i (j - i) := by
  obtain ⟨hN, P, U, V, Q, h1, h2, h3, h4, h5⟩ := h
  obtain ⟨V1, V2, hV, hV1, hV2⟩ := cut_len (A := V) (k := j - i) (by omega)
  have hlen : (P ++ V2 ++ V1 ++ U ++ Q).length = N := by rw [← hN, h1, hV]; simp; omega
  refine ⟨P, U, V1, V2, Q, _, by rw [h1, hV]; simp, rfl, by omega, h3, by omega, by omega, hlen, hlen, P, V2, V1, U ++ Q, by simp, by rw [h2, hV]; simp, by omega, hV1, by omega⟩
theorem rot_eq {l2 l' : List Event} {N m i : Nat} (h : RotI l2 l' N m i i) : ∃ X A M B Y, l' = X ++ A ++ M ++ B ++ Y ∧ l2 = X ++ B ++ M ++ A ++ Y ∧ X.length = m - i ∧ A.length = i ∧ B.length = i ∧ m - i + i + M.length = m := by
  obtain ⟨hN, P, U, V, Q, h1, h2, h3, h4, h5⟩ := h
  exact ⟨P, U, [], V, Q, by rw [h1]; simp, by rw [h2]; simp, by omega, h3, h4, by simp; omega⟩
theorem rot_le {l2 l' : List Event} {N m i j : Nat} (h : RotI l2 l' N m i j) : i ≤ m ∧ m + j ≤ N := by
  obtain ⟨hN, P, U, V, Q, h1, h2, h3, h4, h5⟩ := h
  have := congrArg List.length h1
  simp at this
  omega
theorem rotate_spec {l l2 X A B Y : List Event} {C : List PV} {b cap N x m y : Nat} (hN : l.length = N) (hN2 : N ≤ 100000) (hl : l = X ++ A ++ B ++ Y) (hl2 : l2 = X ++ B ++ A ++ Y)
    (hX : X.length = x) (hA : x + A.length = m) (hB : m + B.length = y) (hA0 : 0 < A.length) (hB0 : 0 < B.length) (st : Store) :
    Does P F.slices_rotateCmpFunc__apiEvent [.own b 0 N cap, .int (x : Nat), .int (m : Nat), .int (y : Nat), cmpF] ((b, rowO l C) :: st) (.tuple []) ((b, rowO l2 C) :: st) := by
  have h0 : RotI l2 l N m A.length B.length := ⟨hN, X, A, B, Y, hl, hl2, rfl, rfl, by omega⟩
  have hle := rot_le h0
  have hw1 : IntKind.i64.wrap ((m : Int) - x) = (A.length : Int) := by rw [wrap_in (by omega) (by omega)]; omega
  have hw2 : IntKind.i64.wrap ((y : Int) - m) = (B.length : Int) := by rw [wrap_in (by omega) (by omega)]; omega
  generalize A.length = i0 at *
  generalize B.length = j0 at *
  clear hl hl2
  refine H.slices_rotateCmpFunc__apiEvent.view hmix rfl rfl ?_
  repeat' (first
    | (with_reducible refine Fresh.intro fun b hb => ?_) <;> (try simp -dsimp -implicitDefEqProofs [*] at hb)
    | (with_reducible refine Lit.imm ?_)
    | ((with_reducible refine Grow.intro ?_ fun b cap hb hc1 hc2 => ?_); omega) <;> (try simp -dsimp -implicitDefEqProofs [*] at hb)
    | (with_reducible refine DrawLate.intro [] ?_)
    | (with_reducible refine Cls_and ?_ ?_)
    | (with_reducible exact Cls.self _ _)
    | (with_reducible refine Cls_same ?_)
    | (with_reducible refine Cls_in ?_ ?_)
    | (with_reducible refine Cls_fresh ?_ ?_)
    | (with_reducible refine And.intro (fun h => ?_) (fun h => ?_)) <;> (try (exfalso; omega))
    | (with_reducible refine And.intro (fun h => ?_) ?_) <;> (try (exfalso; omega))
    | ((with_reducible refine and_keep ?_ fun hk => ?_); omega)
    | (simp -dsimp -implicitDefEqProofs [*]))
  refine xloop_for (fun s : (Nat × Nat) × List Event => [(0, .own b 0 N cap), (2, .int (m : Nat)), (4, cmpF), (10, .int (s.1.1 : Nat)), (11, .int (s.1.2 : Nat))]) (fun s => (b, rowO s.2 C) :: st)
    (fun s => 0 < s.1.1 ∧ 0 < s.1.2 ∧ RotI l2 s.2 N m s.1.1 s.1.2) (fun s => s.1.1 + s.1.2) ((i0, j0), l) ?_ ?_ ?_ ?_
  · exact ⟨hA0, hB0, h0⟩
  · simp
  · simp
  rintro ⟨⟨i, j⟩, l'⟩ ⟨hi, hj, hI⟩
  simp only at hi hj hI
  have hle' := rot_le hI
  have hlen' := hI.1
  clear h0 hle hw1 hw2 hN hA hB hA0 hB0
  obtain ⟨p, hp⟩ : ∃ p, p = m - i := ⟨_, rfl⟩
  have hwp : IntKind.i64.wrap ((m : Int) - i) = (p : Int) := by rw [wrap_in (by omega) (by omega)]; omega
  rcases Nat.lt_trichotomy i j with hij | hij | hij
  · obtain ⟨X', A', M', B', Y', l3, e1, e2, e3, e4, e5, e6, e7, e8⟩ := rot_lt hI hij
    obtain ⟨q, hq⟩ : ∃ q, q = m + j - i := ⟨_, rfl⟩
    obtain ⟨k, hk⟩ : ∃ k, k = j - i := ⟨_, rfl⟩
    obtain ⟨r, hr⟩ : ∃ r, r = m + j := ⟨_, rfl⟩
    have hwr : IntKind.i64.wrap ((m : Int) + j) = (r : Int) := by rw [wrap_in (by omega) (by omega)]; omega
    have hwq : IntKind.i64.wrap ((r : Int) - i) = (q : Int) := by rw [wrap_in (by omega) (by omega)]; omega
    have hwk : IntKind.i64.wrap ((j : Int) - i) = (k : Int) := by rw [wrap_in (by omega) (by omega)]; omega
    rw [← hp] at e3 e6
    rw [← hq] at e6
    rw [← hk] at e8
    have hs := swapRange_spec (C := C) (b := b) (cap := cap) hlen' hN2 e1 e2 e3 e4 e5 e6
    have hne : ¬ i = j ∧ ¬ j = i := by omega
    have hk0 : 0 < k ∧ k < j := by omega
    clear e1 e2 e3 e4 e5 e6 hp hq hr hk hX
    repeat' (first
      | (with_reducible refine Fresh.intro fun b hb => ?_) <;> (try simp -dsimp -implicitDefEqProofs [*] at hb)
      | (with_reducible refine Does.xcall (hs st) ?_)
      | (with_reducible refine Lit.imm ?_)
      | ((with_reducible refine Grow.intro ?_ fun b cap hb hc1 hc2 => ?_); omega) <;> (try simp -dsimp -implicitDefEqProofs [*] at hb)
      | (with_reducible refine DrawLate.intro [] ?_)
      | (with_reducible refine Cls_and ?_ ?_)
      | (with_reducible exact Cls.self _ _)
      | (with_reducible refine Cls_same ?_)
      | (with_reducible refine Cls_in ?_ ?_)
      | (with_reducible refine Cls_fresh ?_ ?_)
      | (with_reducible refine And.intro (fun h => ?_) (fun h => ?_)) <;> (try (exfalso; omega))
      | (with_reducible refine And.intro (fun h => ?_) ?_) <;> (try (exfalso; omega))
      | ((with_reducible refine and_keep ?_ fun hk => ?_); omega)
      | (simp -dsimp -implicitDefEqProofs [*]))
    exact Next.intro ((i, k), l3) ⟨hi, hk0.1, e8⟩ (by simp only; omega) (by simp) (by repeat' (first | exact StLe.refl _ | (refine StLe_cons (by simp [*]; done) ?_) | (refine StLe_fresh (by simp [*]; done) ?_)))
  · subst hij
    obtain ⟨X', A', M', B', Y', e1, e2, e3, e4, e5, e6⟩ := rot_eq hI
    rw [← hp] at e3 e6
    have hs := swapRange_spec (C := C) (b := b) (cap := cap) hlen' hN2 e1 e2 e3 e4 e5 e6
    clear e1 e2 e3 e4 e5 e6 hp hX
    repeat' (first
      | (with_reducible refine Fresh.intro fun b hb => ?_) <;> (try simp -dsimp -implicitDefEqProofs [*] at hb)
      | (with_reducible refine Does.xcall (hs st) ?_)
      | (with_reducible refine Lit.imm ?_)
      | ((with_reducible refine Grow.intro ?_ fun b cap hb hc1 hc2 => ?_); omega) <;> (try simp -dsimp -implicitDefEqProofs [*] at hb)
      | (with_reducible refine DrawLate.intro [] ?_)
      | (with_reducible refine Cls_and ?_ ?_)
      | (with_reducible exact Cls.self _ _)
      | (with_reducible refine Cls_same ?_)
      | (with_reducible refine Cls_in ?_ ?_)
      | (with_reducible refine Cls_fresh ?_ ?_)
      | (with_reducible refine And.intro (fun h => ?_) (fun h => ?_)) <;> (try (exfalso; omega))
      | (with_reducible refine And.intro (fun h => ?_) ?_) <;> (try (exfalso; omega))
      | ((with_reducible refine and_keep ?_ fun hk => ?_); omega)
      | (simp -dsimp -implicitDefEqProofs [*]))
    exact .drop (StLe.refl _) ⟨rfl, rfl⟩
  · obtain ⟨X', A', M', B', Y', l3, e1, e2, e3, e4, e5, e6, e7, e8⟩ := rot_gt hI hij
    obtain ⟨k, hk⟩ : ∃ k, k = i - j := ⟨_, rfl⟩
    have hwk : IntKind.i64.wrap ((i : Int) - j) = (k : Int) := by rw [wrap_in (by omega) (by omega)]; omega
    rw [← hp] at e3 e6
    rw [← hk] at e8
    have hs := swapRange_spec (C := C) (b := b) (cap := cap) hlen' hN2 e1 e2 e3 e4 e5 e6
    have hne : ¬ i = j ∧ ¬ j = i := by omega
    have hk0 : 0 < k ∧ k < i := by omega
    clear e1 e2 e3 e4 e5 e6 hp hk hX
    repeat' (first
      | (with_reducible refine Fresh.intro fun b hb => ?_) <;> (try simp -dsimp -implicitDefEqProofs [*] at hb)
      | (with_reducible refine Does.xcall (hs st) ?_)
      | (with_reducible refine Lit.imm ?_)
      | ((with_reducible refine Grow.intro ?_ fun b cap hb hc1 hc2 => ?_); omega) <;> (try simp -dsimp -implicitDefEqProofs [*] at hb)
      | (with_reducible refine DrawLate.intro [] ?_)
      | (with_reducible refine Cls_and ?_ ?_)
      | (with_reducible exact Cls.self _ _)
      | (with_reducible refine Cls_same ?_)
      | (with_reducible refine Cls_in ?_ ?_)
      | (with_reducible refine Cls_fresh ?_ ?_)
      | (with_reducible refine And.intro (fun h => ?_) (fun h => ?_)) <;> (try (exfalso; omega))
      | (with_reducible refine And.intro (fun h => ?_) ?_) <;> (try (exfalso; omega))
      | ((with_reducible refine and_keep ?_ fun hk => ?_); omega)
      | (simp -dsimp -implicitDefEqProofs [*]))
    exact Next.intro ((k, j), l3) ⟨hk0.1, hj, e8⟩ (by simp only; omega) (by simp) (by repeat' (first | exact StLe.refl _ | (refine StLe_cons (by simp [*]; done) ?_) | (refine StLe_fresh (by simp [*]; done) ?_)))
def RotD (l l2 : List Event) (x m y : Nat) : Prop := ∃ X A B Y, l = X ++ A ++ B ++ Y ∧ l2 = X ++ B ++ A ++ Y ∧ X.length = x ∧ x + A.length = m ∧ m + B.length = y ∧ 0 < A.length ∧ 0 < B.length
def MrgD (l l2 : List Event) (x m y : Nat) : Prop := ∃ X A B Y, l = X ++ A ++ B ++ Y ∧ l2 = X ++ srt key (A ++ B) ++ Y ∧ X.length = x ∧ x + A.length = m ∧ m + B.length = y ∧ 0 < A.length ∧ 0 < B.length ∧ Srtd key A ∧ Srtd key B
theorem rotD_spec {l l2 : List Event} {C : List PV} {b cap N x m y : Nat} (hN : l.length = N) (hN2 : N ≤ 100000) (h : RotD l l2 x m y) (st : Store) :
    Does P F.slices_rotateCmpFunc__apiEvent [.own b 0 N cap, .int (x : Nat), .int (m : Nat), .int (y : Nat), cmpF] ((b, rowO l C) :: st) (.tuple []) ((b, rowO l2 C) :: st) := by
  obtain ⟨X, A, B, Y, h1, h2, h3, h4, h5, h6, h7⟩ := h
  exact rotate_spec hN hN2 h1 h2 h3 h4 h5 h6 h7 st
theorem MrgD.le {l l2 : List Event} {x m y N : Nat} (h : MrgD l l2 x m y) (hN : l.length = N) : x < m ∧ m < y ∧ y ≤ N ∧ l2.length = N := by
  obtain ⟨X, A, B, Y, h1, h2, h3, h4, h5, h6, h7, -⟩ := h
  have e1 := congrArg List.length h1
  have e2 := congrArg List.length h2
  simp at e1 e2
  omega
/-- A search in a list that is in order: before it less (or not greater), behind it not less (or greater). -/
def Src (f g : Event → Prop) (B : List Event) (m i j : Nat) : Prop := ∃ B1 Bm B2, B = B1 ++ Bm ++ B2 ∧ m + B1.length = i ∧ i + Bm.length = j ∧ (∀ q ∈ B1, f q) ∧ (∀ q ∈ B2, g q)
theorem Src.le {f g : Event → Prop} {B : List Event} {m i j : Nat} (h : Src f g B m i j) : m ≤ i ∧ i ≤ j ∧ j ≤ m + B.length := by
  obtain ⟨B1, Bm, B2, h1, h2, h3, -⟩ := h
  have := congrArg List.length h1
  simp at this
  omega
theorem Src.step {f g : Event → Prop} {X B Y l : List Event} {m i j h : Nat} (hl : l = X ++ B ++ Y) (hX : X.length = m) (hB : Srtd key B) (hf : ∀ a b : Event, key a ≤ key b → f b → f a) (hg : ∀ a b : Event, key a ≤ key b → g a → g b) (hs : Src f g B m i j) (h1 : i ≤ h) (h2 : h < j) :
    ∃ z, h < l.length ∧ (∀ h' : h < l.length, l[h] = z) ∧ (f z → Src f g B m (h + 1) j) ∧ (g z → Src f g B m i h) := by
  obtain ⟨B1, Bm, B2, e1, e2, e3, e4, e5⟩ := hs
  obtain ⟨C1, C2, hC, hC1, hC2⟩ := cut_len (A := Bm) (k := h - i) (by omega)
  rcases C2 with _ | ⟨z, C2⟩
  · simp at hC2; omega
  have hB' : Srtd key (B1 ++ (C1 ++ z :: C2) ++ B2) := by rw [← hC, ← e1]; exact hB
  have hm := hB'.left.right
  have hlen := congrArg List.length hC
  simp at hlen
  obtain ⟨a1, a2⟩ := at_mid (l := l) (P := X ++ B1 ++ C1) (z := z) (R := C2 ++ B2 ++ Y) (i := h) (by rw [hl, e1, hC]; simp) (by simp; omega)
  refine ⟨z, a1, a2, fun hz => ⟨B1 ++ C1 ++ [z], C2, B2, by rw [e1, hC]; simp, by simp; omega, by omega, fun q hq => ?_, e5⟩, fun hz => ⟨B1, C1, z :: C2 ++ B2, by rw [e1, hC]; simp, e2, by omega, e4, fun q hq => ?_⟩⟩
  · rcases List.mem_append.1 hq with hq | hq
    · rcases List.mem_append.1 hq with hq | hq
      · exact e4 q hq
      · exact hf q z (hm.le hq (by simp)) hz
    · simp at hq; subst hq; exact hz
  · rcases List.mem_append.1 hq with hq | hq
    · rcases List.mem_cons.1 hq with rfl | hq
      · exact hz
      · exact hg z q ((List.pairwise_cons.1 hm.right).1 q hq) hz
    · exact e5 q hq
theorem Src.init {f g : Event → Prop} {B : List Event} {m y : Nat} (h : m + B.length = y) : Src f g B m m y := ⟨[], B, [], by simp, by simp, h, by simp, by simp⟩
theorem Src.fin {f g : Event → Prop} {B : List Event} {m i j : Nat} (h : Src f g B m i j) (hij : j ≤ i) : ∃ B1 B2, B = B1 ++ B2 ∧ m + B1.length = i ∧ (∀ q ∈ B1, f q) ∧ (∀ q ∈ B2, g q) := by
  obtain ⟨B1, Bm, B2, e1, e2, e3, e4, e5⟩ := h
  have : Bm = [] := List.length_eq_zero_iff.1 (by omega)
  subst this
  exact ⟨B1, B2, by simpa using e1, e2, e4, e5⟩
end SortEvent
end Go.Proofs.Ythkjdppifnmakaa
