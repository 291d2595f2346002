/- Sorting Events. -/
import Derived.Test.YthkjdppifnmakaaS51D
namespace Go.Proofs.Ythkjdppifnmakaa
open Go.Pv
set_option maxRecDepth 100000
namespace SortEvent
@[simp] theorem own_sub {l : List Event} {i : Nat} {C : List PV} (h : i < l.length) : sub (Event.row l ++ C) (i * 9) 9 = some (l[i]).enc := Go.Pv.own_sub Event.len h
@[simp] theorem own_set {l : List Event} {i : Nat} {x : Event} {C : List PV} (h : i < l.length) : setCells (Event.row l ++ C) (i * 9) x.enc = Event.row (l.set i x) ++ C := Go.Pv.own_set Event.len h
abbrev keyF : PV := fnv F.appeals_Apply_1
abbrev cmpF : PV := .func (.func F.appeals_by__apiEvent_1) [] [.iptr [keyF] 0]
theorem key_spec (e : Event) (st : Store) : Rets P F.appeals_Apply_1 [e.pv] st (.int e.no) := by
  refine H.appeals_Apply_1.pure hmix rfl rfl ?_
  repeat' (first
    | (with_reducible refine Fresh.intro fun b hb => ?_) <;> (try simp -dsimp -implicitDefEqProofs [*] at hb)
    | (with_reducible refine Lit.imm ?_)
    | ((with_reducible refine Grow.intro ?_ fun b cap hb hc1 hc2 => ?_); omega) <;> (try simp -dsimp -implicitDefEqProofs [*] at hb)
    | (with_reducible refine RetView.nil2 ?_)
    | (with_reducible refine RetView.nil1 ?_)
    | (with_reducible refine RetView.loose2 (t := true) ?_)
    | (with_reducible refine RetView.loose1 (t := true) ?_)
    | (with_reducible refine RetView.fz 1 ?_ ?_)
    | (with_reducible refine RetView.same ?_)
    | (with_reducible refine DrawLate.intro [] ?_)
    | (with_reducible refine Cls_and ?_ ?_)
    | (with_reducible exact Cls.self _ _)
    | (with_reducible refine Cls_same ?_)
    | (with_reducible refine Cls_in ?_ ?_)
    | (with_reducible refine Cls_fresh ?_ ?_)
    | (with_reducible refine And.intro (fun h => ?_) (fun h => ?_)) <;> (try (exfalso; omega))
    | (with_reducible refine And.intro (fun h => ?_) ?_) <;> (try (exfalso; omega))
    | ((with_reducible refine and_keep ?_ fun hk => ?_); omega)
    | (simp -dsimp -implicitDefEqProofs [*]))
theorem by_spec (x y : Event) (st : Store) : Rets P F.appeals_by__apiEvent_1 [x.pv, y.pv, .iptr [keyF] 0] st (.int (cmpI x.no y.no)) := by
  refine H.appeals_by__apiEvent_1.pure hmix rfl rfl ?_
  repeat' (first
    | (with_reducible refine Fresh.intro fun b hb => ?_) <;> (try simp -dsimp -implicitDefEqProofs [*] at hb)
    | (with_reducible refine Rets.xcall (key_spec _ _) ?_)
    | (with_reducible refine Rets.xsoft (key_spec _ _) ?_)
    | (with_reducible refine xlateCall_of (fun _ => key_spec _ _) ?_)
    | (with_reducible refine Rets.xcall (cmp_spec _ _ _) ?_)
    | (with_reducible refine Rets.xsoft (cmp_spec _ _ _) ?_)
    | (with_reducible refine xlateCall_of (fun _ => cmp_spec _ _ _) ?_)
    | (with_reducible refine Lit.imm ?_)
    | ((with_reducible refine Grow.intro ?_ fun b cap hb hc1 hc2 => ?_); omega) <;> (try simp -dsimp -implicitDefEqProofs [*] at hb)
    | (with_reducible refine RetView.nil2 ?_)
    | (with_reducible refine RetView.nil1 ?_)
    | (with_reducible refine RetView.loose2 (t := true) ?_)
    | (with_reducible refine RetView.loose1 (t := true) ?_)
    | (with_reducible refine RetView.fz 1 ?_ ?_)
    | (with_reducible refine RetView.same ?_)
    | (with_reducible refine DrawLate.intro [] ?_)
    | (with_reducible refine Cls_and ?_ ?_)
    | (with_reducible exact Cls.self _ _)
    | (with_reducible refine Cls_same ?_)
    | (with_reducible refine Cls_in ?_ ?_)
    | (with_reducible refine Cls_fresh ?_ ?_)
    | (with_reducible refine And.intro (fun h => ?_) (fun h => ?_)) <;> (try (exfalso; omega))
    | (with_reducible refine And.intro (fun h => ?_) ?_) <;> (try (exfalso; omega))
    | ((with_reducible refine and_keep ?_ fun hk => ?_); omega)
    | (simp -dsimp -implicitDefEqProofs [*]))
abbrev rowO (l : List Event) (C : List PV) : PObj := .arr T.apiEvent (Event.row l ++ C)
/-- Two elements change places. -/
def exch (l : List Event) (i j : Nat) (hi : i < l.length) (hj : j < l.length) : List Event := (l.set i l[j]).set j l[i]
theorem swap2 {l P Q R : List Event} {x y : Event} {i j : Nat} (hl : l = P ++ x :: (Q ++ y :: R)) (hi : P.length = i) (hj : i + 1 + Q.length = j) :
    (∀ h : i < l.length, l[i] = x) ∧ (∀ h : j < l.length, l[j] = y) ∧ (l.set i y).set j x = P ++ y :: (Q ++ x :: R) ∧ (l.set j x).set i y = P ++ y :: (Q ++ x :: R) ∧ i < l.length ∧ j < l.length := by
  subst hl; subst hi; subst hj
  have e2 : P.length + 1 + Q.length - P.length = Q.length + 1 := by omega
  have e3 : ¬ P.length + 1 + Q.length < P.length := by omega
  refine ⟨fun h => by simp, fun h => ?_, ?_, ?_, by simp, by simp; omega⟩
  · rw [List.getElem_append_right (by omega)]
    simp [e2]
  · simp [List.set_append, e2, e3]
  · simp [List.set_append, e2, e3]
theorem cut_at {A : List Event} {i : Nat} (h : i < A.length) : ∃ a, A.drop i = a :: A.drop (i + 1) ∧ A.take (i + 1) = A.take i ++ [a] := ⟨A[i], List.drop_eq_getElem_cons h, List.take_succ_eq_append_getElem h⟩
theorem cut_len {A : List Event} {k : Nat} (h : k ≤ A.length) : ∃ U V, A = U ++ V ∧ U.length = k ∧ V.length = A.length - k := ⟨A.take k, A.drop k, (List.take_append_drop k A).symm, by simp [h], by simp⟩
abbrev key (e : Event) : Int := e.no
@[simp] theorem cmpI_lt (a b : Int) : cmpI a b < 0 ↔ a < b := by unfold cmpI; split <;> (try split) <;> omega
@[simp] theorem cmpI_ge (a b : Int) : 0 ≤ cmpI a b ↔ b ≤ a := by unfold cmpI; split <;> (try split) <;> omega
theorem at_mid {l P R : List Event} {z : Event} {i : Nat} (hl : l = P ++ z :: R) (hi : P.length = i) : i < l.length ∧ ∀ h : i < l.length, l[i] = z := by
  subst hl; subst hi
  exact ⟨by simp, fun h => by simp⟩
/-- An element on its way into a list that is in order. -/
def InsI (X U R : List Event) (x : Event) (N a j : Nat) (l : List Event) : Prop := l.length = N ∧ ∃ P Q, U = P ++ Q ∧ l = X ++ P ++ x :: (Q ++ R) ∧ a + P.length = j ∧ ∀ q ∈ Q, key x < key q
theorem ins_step {X U R : List Event} {x : Event} {N a j : Nat} {l : List Event} (h : InsI X U R x N a j l) (hX : X.length = a) (hU : Srtd key U) (hj : a < j) : ∃ v l3, (∀ h : j < l.length, l[j] = x) ∧ (∀ h : j - 1 < l.length, l[j - 1] = v) ∧ (l.set j v).set (j - 1) x = l3 ∧ l3.length = N ∧ j < N ∧
    (key x < key v → InsI X U R x N a (j - 1) l3) ∧ (key v ≤ key x → l = X ++ srt key (U ++ [x]) ++ R) := by
  obtain ⟨hN, P, Q, h1, h2, h3, h4⟩ := h
  rcases List.eq_nil_or_concat P with rfl | ⟨P', v, rfl⟩
  · simp at h3; omega
  rw [List.concat_eq_append] at *
  simp at h3
  obtain ⟨e1, e2, e3, e4, e5, e6⟩ := swap2 (l := l) (P := X ++ P') (x := v) (Q := []) (y := x) (R := Q ++ R) (i := j - 1) (j := j) (by rw [h2]; simp) (by simp; omega) (by simp; omega)
  have hlen : ((l.set j v).set (j - 1) x).length = N := by simp [hN]
  refine ⟨v, _, e2, e1, rfl, hlen, by omega, fun hv => ⟨hlen, P', v :: Q, by rw [h1]; simp, by rw [e4]; simp, by omega, fun q hq => ?_⟩, fun hv => ?_⟩
  · rcases List.mem_cons.1 hq with rfl | hq
    · exact hv
    · exact h4 q hq
  · rw [h2, h1, ← srt_snoc (h1 ▸ hU) (fun p hp => ?_) h4]
    · simp
    · rcases List.mem_append.1 hp with hp | hp
      · have := (h1 ▸ hU : Srtd key (P' ++ [v] ++ Q)).left.le hp (b := v) (by simp)
        omega
      · simp at hp; subst hp; exact hv
theorem ins_end {X U R : List Event} {x : Event} {N a : Nat} {l : List Event} (h : InsI X U R x N a a l) (hU : Srtd key U) : l = X ++ srt key (U ++ [x]) ++ R := by
  obtain ⟨hN, P, Q, h1, h2, h3, h4⟩ := h
  have : P = [] := List.length_eq_zero_iff.1 (by omega)
  subst this
  rw [h2, h1, ← srt_snoc (h1 ▸ hU) (by simp) h4]
  simp
theorem srt_more {T : List Event} {x : Event} : srt key (srt key T ++ [x]) = srt key (T ++ [x]) := srt_congr (Stb.app (srt_stb T).symm (.refl _))
theorem insertion_spec {l l2 X L Y : List Event} {C : List PV} {b cap N a z : Nat} (hN : l.length = N) (hN2 : N ≤ 100000) (hl : l = X ++ L ++ Y) (hl2 : l2 = X ++ srt key L ++ Y) (hX : X.length = a) (hz : a + L.length = z) (st : Store) :
    Does P F.slices_insertionSortCmpFunc__apiEvent [.own b 0 N cap, .int (a : Nat), .int (z : Nat), cmpF] ((b, rowO l C) :: st) (.tuple []) ((b, rowO l2 C) :: st) := by
  have hzN : z ≤ N := by
    have := congrArg List.length hl
    simp at this
    omega
  have h0 : Hid (l = X ++ srt key (L.take (a + 1 - a)) ++ (L.drop (a + 1 - a) ++ Y)) := by
    constructor
    rw [hl, show a + 1 - a = 1 by omega]
    rcases L with _ | ⟨x, L⟩
    · simp [srt]
    · simp [srt, ordIns]
  have h2 : Hid (l2 = X ++ srt key L ++ Y) := ⟨hl2⟩
  obtain ⟨a1, ha1⟩ : ∃ a1, a1 = a + 1 := ⟨_, rfl⟩
  have hwa : IntKind.i64.wrap ((a : Int) + 1) = (a1 : Int) := by rw [ha1, wrap_succ (by omega)]; omega
  rw [← ha1] at h0
  have haz : a1 = a + 1 := ha1
  clear hl hl2 ha1
  refine H.slices_insertionSortCmpFunc__apiEvent.view hmix rfl rfl ?_
  clear haz
  repeat' (first
    | (with_reducible refine Fresh.intro fun b hb => ?_) <;> (try simp -dsimp -implicitDefEqProofs [*] at hb)
    | (with_reducible refine Lit.imm ?_)
    | ((with_reducible refine Grow.intro ?_ fun b cap hb hc1 hc2 => ?_); omega) <;> (try simp -dsimp -implicitDefEqProofs [*] at hb)
    | (with_reducible refine DrawLate.intro [] ?_)
    | (with_reducible refine Cls_and ?_ ?_)
    | (with_reducible exact Cls.self _ _)
    | (with_reducible refine Cls_same ?_)
    | (with_reducible refine Cls_in ?_ ?_)
    | (with_reducible refine Cls_fresh ?_ ?_)
    | (with_reducible refine And.intro (fun h => ?_) (fun h => ?_)) <;> (try (exfalso; omega))
    | (with_reducible refine And.intro (fun h => ?_) ?_) <;> (try (exfalso; omega))
    | ((with_reducible refine and_keep ?_ fun hk => ?_); omega)
    | (simp -dsimp -implicitDefEqProofs [*]))
  have haz : a1 = a + 1 := by have := wrap_succ (n := a) (by omega); omega
  refine xloop_for (fun s : Nat × List Event => [(0, .own b 0 N cap), (1, .int (a : Nat)), (2, .int (z : Nat)), (3, cmpF), (8, .int (s.1 : Nat))]) (fun s => (b, rowO s.2 C) :: st)
    (fun s => a1 ≤ s.1 ∧ (s.1 ≤ z ∨ s.1 = a1) ∧ s.2.length = N ∧ s.2 = X ++ srt key (L.take (s.1 - a)) ++ (L.drop (s.1 - a) ++ Y)) (fun s => z - s.1) (a1, l) ⟨Nat.le_refl _, .inr rfl, hN, h0.out⟩ (by simp) (by simp) ?_
  clear h0 hwa
  rintro ⟨i, l'⟩ ⟨hi1, hi2, hlen', hl'⟩
  simp only at hi1 hi2 hlen' hl'
  by_cases hiz : i < z
  · obtain ⟨x, c1, c2⟩ := cut_at (A := L) (i := i - a) (by omega)
    obtain ⟨i2, hi3⟩ : ∃ i2, i2 = i + 1 := ⟨_, rfl⟩
    have hwi : IntKind.i64.wrap ((i : Int) + 1) = (i2 : Int) := by rw [hi3, wrap_succ (by omega)]; omega
    have hi4 : i - a + 1 = i2 - a := by omega
    rw [hi4] at c1 c2
    have hU := srt_srtd (key := key) (L.take (i - a))
    have hlU : (srt key (L.take (i - a))).length = i - a := by simp; omega
    have hI : InsI X (srt key (L.take (i - a))) (L.drop (i2 - a) ++ Y) x N a i l' := ⟨hlen', srt key (L.take (i - a)), [], by simp, by rw [hl', c1]; simp, by omega, by simp⟩
    have hfin : ∀ l3 : List Event, l3 = X ++ srt key (srt key (L.take (i - a)) ++ [x]) ++ (L.drop (i2 - a) ++ Y) → l3 = X ++ srt key (L.take (i2 - a)) ++ (L.drop (i2 - a) ++ Y) := fun l3 h => by rw [h, srt_more, c2]
    generalize srt key (L.take (i - a)) = U at hI hfin hU
    have hii : i < i2 ∧ i2 ≤ z ∧ a1 ≤ i2 ∧ a < i := by omega
    clear hl' c1 c2 hi3 hi4 hlU hlen' haz hi2
    repeat' (first
      | (with_reducible refine Fresh.intro fun b hb => ?_) <;> (try simp -dsimp -implicitDefEqProofs [*] at hb)
      | (with_reducible refine Lit.imm ?_)
      | ((with_reducible refine Grow.intro ?_ fun b cap hb hc1 hc2 => ?_); omega) <;> (try simp -dsimp -implicitDefEqProofs [*] at hb)
      | (with_reducible refine DrawLate.intro [] ?_)
      | (with_reducible refine Cls_and ?_ ?_)
      | (with_reducible exact Cls.self _ _)
      | (with_reducible refine Cls_same ?_)
      | (with_reducible refine Cls_in ?_ ?_)
      | (with_reducible refine Cls_fresh ?_ ?_)
      | (with_reducible refine And.intro (fun h => ?_) (fun h => ?_)) <;> (try (exfalso; omega))
      | (with_reducible refine And.intro (fun h => ?_) ?_) <;> (try (exfalso; omega))
      | ((with_reducible refine and_keep ?_ fun hk => ?_); omega)
      | (simp -dsimp -implicitDefEqProofs [*]))
    refine xloop_for (fun s : Nat × List Event => [(0, .own b 0 N cap), (1, .int (a : Nat)), (2, .int (z : Nat)), (3, cmpF), (8, .int (i : Nat)), (9, .int (s.1 : Nat))]) (fun s => (b, rowO s.2 C) :: st)
      (fun s => a ≤ s.1 ∧ InsI X U (L.drop (i2 - a) ++ Y) x N a s.1 s.2) (fun s => s.1) (i, l') ⟨by simp only; omega, hI⟩ (by simp) (by simp) ?_
    rintro ⟨j, l''⟩ ⟨hj1, hJ⟩
    simp only at hj1 hJ
    have hlen2 := hJ.1
    by_cases hj : a < j
    · obtain ⟨v, l3, s1, s2, s3, s4, s5, s6, s7⟩ := ins_step hJ hX hU hj
      obtain ⟨q, hq⟩ : ∃ q, q = j - 1 := ⟨_, rfl⟩
      have hwq : IntKind.i64.wrap ((j : Int) - 1) = (q : Int) := by rw [wrap_in (by omega) (by omega)]; omega
      rw [← hq] at s2 s3 s6
      have hqj : q < j ∧ a ≤ q ∧ q < N := by omega
      clear hq hX hI hJ hz
      by_cases hxv : x.no < v.no
      · replace s6 := s6 hxv
        clear s7 hfin
        repeat' (first
          | (with_reducible refine Fresh.intro fun b hb => ?_) <;> (try simp -dsimp -implicitDefEqProofs [*] at hb)
          | (with_reducible refine Rets.xcall (by_spec _ _ _) ?_)
          | (with_reducible refine Rets.xsoft (by_spec _ _ _) ?_)
          | (with_reducible refine xlateCall_of (fun _ => by_spec _ _ _) ?_)
          | (with_reducible refine Lit.imm ?_)
          | ((with_reducible refine Grow.intro ?_ fun b cap hb hc1 hc2 => ?_); omega) <;> (try simp -dsimp -implicitDefEqProofs [*] at hb)
          | (with_reducible refine Cls_and ?_ ?_)
          | (with_reducible exact Cls.self _ _)
          | (with_reducible refine Cls_same ?_)
          | (with_reducible refine Cls_in ?_ ?_)
          | (with_reducible refine Cls_fresh ?_ ?_)
          | (with_reducible refine And.intro (fun h => ?_) (fun h => ?_)) <;> (try (exfalso; omega))
          | (with_reducible refine And.intro (fun h => ?_) ?_) <;> (try (exfalso; omega))
          | ((with_reducible refine and_keep ?_ fun hk => ?_); omega)
          | (simp -dsimp -implicitDefEqProofs [*]))
        refine DrawLate.intro [] ?_
        repeat' (first
          | (with_reducible refine Fresh.intro fun b hb => ?_) <;> (try simp -dsimp -implicitDefEqProofs [*] at hb)
          | (with_reducible refine Rets.xcall (by_spec _ _ _) ?_)
          | (with_reducible refine Rets.xsoft (by_spec _ _ _) ?_)
          | (with_reducible refine xlateCall_of (fun _ => by_spec _ _ _) ?_)
          | (with_reducible refine Lit.imm ?_)
          | ((with_reducible refine Grow.intro ?_ fun b cap hb hc1 hc2 => ?_); omega) <;> (try simp -dsimp -implicitDefEqProofs [*] at hb)
          | (with_reducible refine Cls_and ?_ ?_)
          | (with_reducible exact Cls.self _ _)
          | (with_reducible refine Cls_same ?_)
          | (with_reducible refine Cls_in ?_ ?_)
          | (with_reducible refine Cls_fresh ?_ ?_)
          | (with_reducible refine And.intro (fun h => ?_) (fun h => ?_)) <;> (try (exfalso; omega))
          | (with_reducible refine And.intro (fun h => ?_) ?_) <;> (try (exfalso; omega))
          | ((with_reducible refine and_keep ?_ fun hk => ?_); omega)
          | (simp -dsimp -implicitDefEqProofs [*]))
        refine DrawLate.intro [b] ?_
        repeat' (first
          | (with_reducible refine Fresh.intro fun b hb => ?_) <;> (try simp -dsimp -implicitDefEqProofs [*] at hb)
          | (with_reducible refine Rets.xcall (by_spec _ _ _) ?_)
          | (with_reducible refine Rets.xsoft (by_spec _ _ _) ?_)
          | (with_reducible refine xlateCall_of (fun _ => by_spec _ _ _) ?_)
          | (with_reducible refine Lit.imm ?_)
          | ((with_reducible refine Grow.intro ?_ fun b cap hb hc1 hc2 => ?_); omega) <;> (try simp -dsimp -implicitDefEqProofs [*] at hb)
          | (with_reducible refine Cls_and ?_ ?_)
          | (with_reducible exact Cls.self _ _)
          | (with_reducible refine Cls_same ?_)
          | (with_reducible refine Cls_in ?_ ?_)
          | (with_reducible refine Cls_fresh ?_ ?_)
          | (with_reducible refine And.intro (fun h => ?_) (fun h => ?_)) <;> (try (exfalso; omega))
          | (with_reducible refine And.intro (fun h => ?_) ?_) <;> (try (exfalso; omega))
          | ((with_reducible refine and_keep ?_ fun hk => ?_); omega)
          | (simp -dsimp -implicitDefEqProofs [*]))
        exact Next.intro (q, l3) ⟨hqj.2.1, s6⟩ (by simp only; omega) (by simp) (by repeat' (first | exact StLe.refl _ | (refine StLe_cons (by simp [*]; done) ?_) | (refine StLe_fresh (by simp [*]; done) ?_)))
      · have s8 : Hid (l'' = X ++ srt key (L.take (i2 - a)) ++ (L.drop (i2 - a) ++ Y)) := ⟨hfin l'' (s7 (Int.not_lt.1 hxv))⟩
        clear s6 s7 s3 hfin
        repeat' (first
          | (with_reducible refine Fresh.intro fun b hb => ?_) <;> (try simp -dsimp -implicitDefEqProofs [*] at hb)
          | (with_reducible refine Rets.xcall (by_spec _ _ _) ?_)
          | (with_reducible refine Rets.xsoft (by_spec _ _ _) ?_)
          | (with_reducible refine xlateCall_of (fun _ => by_spec _ _ _) ?_)
          | (with_reducible refine Lit.imm ?_)
          | ((with_reducible refine Grow.intro ?_ fun b cap hb hc1 hc2 => ?_); omega) <;> (try simp -dsimp -implicitDefEqProofs [*] at hb)
          | (with_reducible refine DrawLate.intro [] ?_)
          | (with_reducible refine Cls_and ?_ ?_)
          | (with_reducible exact Cls.self _ _)
          | (with_reducible refine Cls_same ?_)
          | (with_reducible refine Cls_in ?_ ?_)
          | (with_reducible refine Cls_fresh ?_ ?_)
          | (with_reducible refine And.intro (fun h => ?_) (fun h => ?_)) <;> (try (exfalso; omega))
          | (with_reducible refine And.intro (fun h => ?_) ?_) <;> (try (exfalso; omega))
          | ((with_reducible refine and_keep ?_ fun hk => ?_); omega)
          | (simp -dsimp -implicitDefEqProofs [*]))
        exact Next.intro (i2, l'') ⟨hii.2.2.1, .inl hii.2.1, hlen2, s8.out⟩ (by simp only; omega) (by simp) (by repeat' (first | exact StLe.refl _ | (refine StLe_cons (by simp [*]; done) ?_) | (refine StLe_fresh (by simp [*]; done) ?_)))
    · have hja : j = a := by omega
      subst hja
      have s8 : Hid (l'' = X ++ srt key (L.take (i2 - j)) ++ (L.drop (i2 - j) ++ Y)) := ⟨hfin l'' (ins_end hJ hU)⟩
      clear hfin hI hJ
      repeat' (first
        | (with_reducible refine Fresh.intro fun b hb => ?_) <;> (try simp -dsimp -implicitDefEqProofs [*] at hb)
        | (with_reducible refine Rets.xcall (by_spec _ _ _) ?_)
        | (with_reducible refine Rets.xsoft (by_spec _ _ _) ?_)
        | (with_reducible refine xlateCall_of (fun _ => by_spec _ _ _) ?_)
        | (with_reducible refine Lit.imm ?_)
        | ((with_reducible refine Grow.intro ?_ fun b cap hb hc1 hc2 => ?_); omega) <;> (try simp -dsimp -implicitDefEqProofs [*] at hb)
        | (with_reducible refine DrawLate.intro [] ?_)
        | (with_reducible refine Cls_and ?_ ?_)
        | (with_reducible exact Cls.self _ _)
        | (with_reducible refine Cls_same ?_)
        | (with_reducible refine Cls_in ?_ ?_)
        | (with_reducible refine Cls_fresh ?_ ?_)
        | (with_reducible refine And.intro (fun h => ?_) (fun h => ?_)) <;> (try (exfalso; omega))
        | (with_reducible refine And.intro (fun h => ?_) ?_) <;> (try (exfalso; omega))
        | ((with_reducible refine and_keep ?_ fun hk => ?_); omega)
        | (simp -dsimp -implicitDefEqProofs [*]))
      exact Next.intro (i2, l'') ⟨hii.2.2.1, .inl hii.2.1, hlen2, s8.out⟩ (by simp only; omega) (by simp) (by repeat' (first | exact StLe.refl _ | (refine StLe_cons (by simp [*]; done) ?_) | (refine StLe_fresh (by simp [*]; done) ?_)))
  · have e : l' = l2 := by rw [hl', h2.out, List.take_of_length_le (by omega), List.drop_of_length_le (by omega)]; simp
    clear hl' hX hz h2
    subst e
    repeat' (first
      | (with_reducible refine Fresh.intro fun b hb => ?_) <;> (try simp -dsimp -implicitDefEqProofs [*] at hb)
      | (with_reducible refine Lit.imm ?_)
      | ((with_reducible refine Grow.intro ?_ fun b cap hb hc1 hc2 => ?_); omega) <;> (try simp -dsimp -implicitDefEqProofs [*] at hb)
      | (with_reducible refine DrawLate.intro [] ?_)
      | (with_reducible refine Cls_and ?_ ?_)
      | (with_reducible exact Cls.self _ _)
      | (with_reducible refine Cls_same ?_)
      | (with_reducible refine Cls_in ?_ ?_)
      | (with_reducible refine Cls_fresh ?_ ?_)
      | (with_reducible refine And.intro (fun h => ?_) (fun h => ?_)) <;> (try (exfalso; omega))
      | (with_reducible refine And.intro (fun h => ?_) ?_) <;> (try (exfalso; omega))
      | ((with_reducible refine and_keep ?_ fun hk => ?_); omega)
      | (simp -dsimp -implicitDefEqProofs [*]))
    exact .drop (StLe.refl _) ⟨rfl, rfl⟩
end SortEvent
end Go.Proofs.Ythkjdppifnmakaa
/- Sorting Decisions. -/
namespace Go.Proofs.Ythkjdppifnmakaa
open Go.Pv
set_option maxRecDepth 100000
namespace SortDecision
@[simp] theorem own_sub {l : List Decision} {i : Nat} {C : List PV} (h : i < l.length) : sub (Decision.row l ++ C) (i * 14) 14 = some (l[i]).enc := Go.Pv.own_sub Decision.len h
@[simp] theorem own_set {l : List Decision} {i : Nat} {x : Decision} {C : List PV} (h : i < l.length) : setCells (Decision.row l ++ C) (i * 14) x.enc = Decision.row (l.set i x) ++ C := Go.Pv.own_set Decision.len h
abbrev keyF : PV := fnv F.appeals_Standing_1
abbrev cmpF : PV := .func (.func F.appeals_by__apiDecision_1) [] [.iptr [keyF] 0]
theorem key_spec (e : Decision) (st : Store) : Rets P F.appeals_Standing_1 [e.pv] st (.int e.known) := by
  refine H.appeals_Standing_1.pure hmix rfl rfl ?_
  repeat' (first
    | (with_reducible refine Fresh.intro fun b hb => ?_) <;> (try simp -dsimp -implicitDefEqProofs [*] at hb)
    | (with_reducible refine Lit.imm ?_)
    | ((with_reducible refine Grow.intro ?_ fun b cap hb hc1 hc2 => ?_); omega) <;> (try simp -dsimp -implicitDefEqProofs [*] at hb)
    | (with_reducible refine RetView.nil2 ?_)
    | (with_reducible refine RetView.nil1 ?_)
    | (with_reducible refine RetView.loose2 (t := true) ?_)
    | (with_reducible refine RetView.loose1 (t := true) ?_)
    | (with_reducible refine RetView.fz 1 ?_ ?_)
    | (with_reducible refine RetView.same ?_)
    | (with_reducible refine DrawLate.intro [] ?_)
    | (with_reducible refine Cls_and ?_ ?_)
    | (with_reducible exact Cls.self _ _)
    | (with_reducible refine Cls_same ?_)
    | (with_reducible refine Cls_in ?_ ?_)
    | (with_reducible refine Cls_fresh ?_ ?_)
    | (with_reducible refine And.intro (fun h => ?_) (fun h => ?_)) <;> (try (exfalso; omega))
    | (with_reducible refine And.intro (fun h => ?_) ?_) <;> (try (exfalso; omega))
    | ((with_reducible refine and_keep ?_ fun hk => ?_); omega)
    | (simp -dsimp -implicitDefEqProofs [*]))
theorem by_spec (x y : Decision) (st : Store) : Rets P F.appeals_by__apiDecision_1 [x.pv, y.pv, .iptr [keyF] 0] st (.int (cmpI x.known y.known)) := by
  refine H.appeals_by__apiDecision_1.pure hmix rfl rfl ?_
  repeat' (first
    | (with_reducible refine Fresh.intro fun b hb => ?_) <;> (try simp -dsimp -implicitDefEqProofs [*] at hb)
    | (with_reducible refine Rets.xcall (key_spec _ _) ?_)
    | (with_reducible refine Rets.xsoft (key_spec _ _) ?_)
    | (with_reducible refine xlateCall_of (fun _ => key_spec _ _) ?_)
    | (with_reducible refine Rets.xcall (cmp_spec _ _ _) ?_)
    | (with_reducible refine Rets.xsoft (cmp_spec _ _ _) ?_)
    | (with_reducible refine xlateCall_of (fun _ => cmp_spec _ _ _) ?_)
    | (with_reducible refine Lit.imm ?_)
    | ((with_reducible refine Grow.intro ?_ fun b cap hb hc1 hc2 => ?_); omega) <;> (try simp -dsimp -implicitDefEqProofs [*] at hb)
    | (with_reducible refine RetView.nil2 ?_)
    | (with_reducible refine RetView.nil1 ?_)
    | (with_reducible refine RetView.loose2 (t := true) ?_)
    | (with_reducible refine RetView.loose1 (t := true) ?_)
    | (with_reducible refine RetView.fz 1 ?_ ?_)
    | (with_reducible refine RetView.same ?_)
    | (with_reducible refine DrawLate.intro [] ?_)
    | (with_reducible refine Cls_and ?_ ?_)
    | (with_reducible exact Cls.self _ _)
    | (with_reducible refine Cls_same ?_)
    | (with_reducible refine Cls_in ?_ ?_)
    | (with_reducible refine Cls_fresh ?_ ?_)
    | (with_reducible refine And.intro (fun h => ?_) (fun h => ?_)) <;> (try (exfalso; omega))
    | (with_reducible refine And.intro (fun h => ?_) ?_) <;> (try (exfalso; omega))
    | ((with_reducible refine and_keep ?_ fun hk => ?_); omega)
    | (simp -dsimp -implicitDefEqProofs [*]))
abbrev rowO (l : List Decision) (C : List PV) : PObj := .arr T.apiDecision (Decision.row l ++ C)
/-- Two elements change places. -/
def exch (l : List Decision) (i j : Nat) (hi : i < l.length) (hj : j < l.length) : List Decision := (l.set i l[j]).set j l[i]
theorem swap2 {l P Q R : List Decision} {x y : Decision} {i j : Nat} (hl : l = P ++ x :: (Q ++ y :: R)) (hi : P.length = i) (hj : i + 1 + Q.length = j) :
    (∀ h : i < l.length, l[i] = x) ∧ (∀ h : j < l.length, l[j] = y) ∧ (l.set i y).set j x = P ++ y :: (Q ++ x :: R) ∧ (l.set j x).set i y = P ++ y :: (Q ++ x :: R) ∧ i < l.length ∧ j < l.length := by
  subst hl; subst hi; subst hj
  have e2 : P.length + 1 + Q.length - P.length = Q.length + 1 := by omega
  have e3 : ¬ P.length + 1 + Q.length < P.length := by omega
  refine ⟨fun h => by simp, fun h => ?_, ?_, ?_, by simp, by simp; omega⟩
  · rw [List.getElem_append_right (by omega)]
    simp [e2]
  · simp [List.set_append, e2, e3]
  · simp [List.set_append, e2, e3]
theorem cut_at {A : List Decision} {i : Nat} (h : i < A.length) : ∃ a, A.drop i = a :: A.drop (i + 1) ∧ A.take (i + 1) = A.take i ++ [a] := ⟨A[i], List.drop_eq_getElem_cons h, List.take_succ_eq_append_getElem h⟩
theorem cut_len {A : List Decision} {k : Nat} (h : k ≤ A.length) : ∃ U V, A = U ++ V ∧ U.length = k ∧ V.length = A.length - k := ⟨A.take k, A.drop k, (List.take_append_drop k A).symm, by simp [h], by simp⟩
abbrev key (e : Decision) : Int := e.known
@[simp] theorem cmpI_lt (a b : Int) : cmpI a b < 0 ↔ a < b := by unfold cmpI; split <;> (try split) <;> omega
@[simp] theorem cmpI_ge (a b : Int) : 0 ≤ cmpI a b ↔ b ≤ a := by unfold cmpI; split <;> (try split) <;> omega
theorem at_mid {l P R : List Decision} {z : Decision} {i : Nat} (hl : l = P ++ z :: R) (hi : P.length = i) : i < l.length ∧ ∀ h : i < l.length, l[i] = z := by
  subst hl; subst hi
  exact ⟨by simp, fun h => by simp⟩
/-- An element on its way into a list that is in order. -/
def InsI (X U R : List Decision) (x : Decision) (N a j : Nat) (l : List Decision) : Prop := l.length = N ∧ ∃ P Q, U = P ++ Q ∧ l = X ++ P ++ x :: (Q ++ R) ∧ a + P.length = j ∧ ∀ q ∈ Q, key x < key q
theorem ins_step {X U R : List Decision} {x : Decision} {N a j : Nat} {l : List Decision} (h : InsI X U R x N a j l) (hX : X.length = a) (hU : Srtd key U) (hj : a < j) : ∃ v l3, (∀ h : j < l.length, l[j] = x) ∧ (∀ h : j - 1 < l.length, l[j - 1] = v) ∧ (l.set j v).set (j - 1) x = l3 ∧ l3.length = N ∧ j < N ∧
    (key x < key v → InsI X U R x N a (j - 1) l3) ∧ (key v ≤ key x → l = X ++ srt key (U ++ [x]) ++ R) := by
  obtain ⟨hN, P, Q, h1, h2, h3, h4⟩ := h
  rcases List.eq_nil_or_concat P with rfl | ⟨P', v, rfl⟩
  · simp at h3; omega
  rw [List.concat_eq_append] at *
  simp at h3
  obtain ⟨e1, e2, e3, e4, e5, e6⟩ := swap2 (l := l) (P := X ++ P') (x := v) (Q := []) (y := x) (R := Q ++ R) (i := j - 1) (j := j) (by rw [h2]; simp) (by simp; omega) (by simp; omega)
  have hlen : ((l.set j v).set (j - 1) x).length = N := by simp [hN]
  refine ⟨v, _, e2, e1, rfl, hlen, by omega, fun hv => ⟨hlen, P', v :: Q, by rw [h1]; simp, by rw [e4]; simp, by omega, fun q hq => ?_⟩, fun hv => ?_⟩
  · rcases List.mem_cons.1 hq with rfl | hq
    · exact hv
    · exact h4 q hq
  · rw [h2, h1, ← srt_snoc (h1 ▸ hU) (fun p hp => ?_) h4]
    · simp
    · rcases List.mem_append.1 hp with hp | hp
      · have := (h1 ▸ hU : Srtd key (P' ++ [v] ++ Q)).left.le hp (b := v) (by simp)
        omega
      · simp at hp; subst hp; exact hv
theorem ins_end {X U R : List Decision} {x : Decision} {N a : Nat} {l : List Decision} (h : InsI X U R x N a a l) (hU : Srtd key U) : l = X ++ srt key (U ++ [x]) ++ R := by
  obtain ⟨hN, P, Q, h1, h2, h3, h4⟩ := h
  have : P = [] := List.length_eq_zero_iff.1 (by omega)
  subst this
  rw [h2, h1, ← srt_snoc (h1 ▸ hU) (by simp) h4]
  simp
theorem srt_more {T : List Decision} {x : Decision} : srt key (srt key T ++ [x]) = srt key (T ++ [x]) := srt_congr (Stb.app (srt_stb T).symm (.refl _))
theorem insertion_spec {l l2 X L Y : List Decision} {C : List PV} {b cap N a z : Nat} (hN : l.length = N) (hN2 : N ≤ 100000) (hl : l = X ++ L ++ Y) (hl2 : l2 = X ++ srt key L ++ Y) (hX : X.length = a) (hz : a + L.length = z) (st : Store) :
    Does P F.slices_insertionSortCmpFunc__apiDecision [.own b 0 N cap, .int (a : Nat), .int (z : Nat), cmpF] ((b, rowO l C) :: st) (.tuple []) ((b, rowO l2 C) :: st) := by
  have hzN : z ≤ N := by
    have := congrArg List.length hl
    simp at this
    omega
  have h0 : Hid (l = X ++ srt key (L.take (a + 1 - a)) ++ (L.drop (a + 1 - a) ++ Y)) := by
    constructor
    rw [hl, show a + 1 - a = 1 by omega]
    rcases L with _ | ⟨x, L⟩
    · simp [srt]
    · simp [srt, ordIns]
  have h2 : Hid (l2 = X ++ srt key L ++ Y) := ⟨hl2⟩
  obtain ⟨a1, ha1⟩ : ∃ a1, a1 = a + 1 := ⟨_, rfl⟩
  have hwa : IntKind.i64.wrap ((a : Int) + 1) = (a1 : Int) := by rw [ha1, wrap_succ (by omega)]; omega
  rw [← ha1] at h0
  have haz : a1 = a + 1 := ha1
  clear hl hl2 ha1
  refine H.slices_insertionSortCmpFunc__apiDecision.view hmix rfl rfl ?_
  clear haz
  repeat' (first
    | (with_reducible refine Fresh.intro fun b hb => ?_) <;> (try simp -dsimp -implicitDefEqProofs [*] at hb)
    | (with_reducible refine Lit.imm ?_)
    | ((with_reducible refine Grow.intro ?_ fun b cap hb hc1 hc2 => ?_); omega) <;> (try simp -dsimp -implicitDefEqProofs [*] at hb)
    | (with_reducible refine DrawLate.intro [] ?_)
    | (with_reducible refine Cls_and ?_ ?_)
    | (with_reducible exact Cls.self _ _)
    | (with_reducible refine Cls_same ?_)
    | (with_reducible refine Cls_in ?_ ?_)
    | (with_reducible refine Cls_fresh ?_ ?_)
    | (with_reducible refine And.intro (fun h => ?_) (fun h => ?_)) <;> (try (exfalso; omega))
    | (with_reducible refine And.intro (fun h => ?_) ?_) <;> (try (exfalso; omega))
    | ((with_reducible refine and_keep ?_ fun hk => ?_); omega)
    | (simp -dsimp -implicitDefEqProofs [*]))
  have haz : a1 = a + 1 := by have := wrap_succ (n := a) (by omega); omega
  refine xloop_for (fun s : Nat × List Decision => [(0, .own b 0 N cap), (1, .int (a : Nat)), (2, .int (z : Nat)), (3, cmpF), (8, .int (s.1 : Nat))]) (fun s => (b, rowO s.2 C) :: st)
    (fun s => a1 ≤ s.1 ∧ (s.1 ≤ z ∨ s.1 = a1) ∧ s.2.length = N ∧ s.2 = X ++ srt key (L.take (s.1 - a)) ++ (L.drop (s.1 - a) ++ Y)) (fun s => z - s.1) (a1, l) ⟨Nat.le_refl _, .inr rfl, hN, h0.out⟩ (by simp) (by simp) ?_
  clear h0 hwa
  rintro ⟨i, l'⟩ ⟨hi1, hi2, hlen', hl'⟩
  simp only at hi1 hi2 hlen' hl'
  by_cases hiz : i < z
  · obtain ⟨x, c1, c2⟩ := cut_at (A := L) (i := i - a) (by omega)
    obtain ⟨i2, hi3⟩ : ∃ i2, i2 = i + 1 := ⟨_, rfl⟩
    have hwi : IntKind.i64.wrap ((i : Int) + 1) = (i2 : Int) := by rw [hi3, wrap_succ (by omega)]; omega
    have hi4 : i - a + 1 = i2 - a := by omega
    rw [hi4] at c1 c2
    have hU := srt_srtd (key := key) (L.take (i - a))
    have hlU : (srt key (L.take (i - a))).length = i - a := by simp; omega
    have hI : InsI X (srt key (L.take (i - a))) (L.drop (i2 - a) ++ Y) x N a i l' := ⟨hlen', srt key (L.take (i - a)), [], by simp, by rw [hl', c1]; simp, by omega, by simp⟩
    have hfin : ∀ l3 : List Decision, l3 = X ++ srt key (srt key (L.take (i - a)) ++ [x]) ++ (L.drop (i2 - a) ++ Y) → l3 = X ++ srt key (L.take (i2 - a)) ++ (L.drop (i2 - a) ++ Y) := fun l3 h => by rw [h, srt_more, c2]
    generalize srt key (L.take (i - a)) = U at hI hfin hU
    have hii : i < i2 ∧ i2 ≤ z ∧ a1 ≤ i2 ∧ a < i := by omega
    clear hl' c1 c2 hi3 hi4 hlU hlen' haz hi2
    repeat' (first
      | (with_reducible refine Fresh.intro fun b hb => ?_) <;> (try simp -dsimp -implicitDefEqProofs [*] at hb)
      | (with_reducible refine Lit.imm ?_)
      | ((with_reducible refine Grow.intro ?_ fun b cap hb hc1 hc2 => ?_); omega) <;> (try simp -dsimp -implicitDefEqProofs [*] at hb)
      | (with_reducible refine DrawLate.intro [] ?_)
      | (with_reducible refine Cls_and ?_ ?_)
      | (with_reducible exact Cls.self _ _)
      | (with_reducible refine Cls_same ?_)
      | (with_reducible refine Cls_in ?_ ?_)
      | (with_reducible refine Cls_fresh ?_ ?_)
      | (with_reducible refine And.intro (fun h => ?_) (fun h => ?_)) <;> (try (exfalso; omega))
      | (with_reducible refine And.intro (fun h => ?_) ?_) <;> (try (exfalso; omega))
      | ((with_reducible refine and_keep ?_ fun hk => ?_); omega)
      | (simp -dsimp -implicitDefEqProofs [*]))
    refine xloop_for (fun s : Nat × List Decision => [(0, .own b 0 N cap), (1, .int (a : Nat)), (2, .int (z : Nat)), (3, cmpF), (8, .int (i : Nat)), (9, .int (s.1 : Nat))]) (fun s => (b, rowO s.2 C) :: st)
      (fun s => a ≤ s.1 ∧ InsI X U (L.drop (i2 - a) ++ Y) x N a s.1 s.2) (fun s => s.1) (i, l') ⟨by simp only; omega, hI⟩ (by simp) (by simp) ?_
    rintro ⟨j, l''⟩ ⟨hj1, hJ⟩
    simp only at hj1 hJ
    have hlen2 := hJ.1
    by_cases hj : a < j
    · obtain ⟨v, l3, s1, s2, s3, s4, s5, s6, s7⟩ := ins_step hJ hX hU hj
      obtain ⟨q, hq⟩ : ∃ q, q = j - 1 := ⟨_, rfl⟩
      have hwq : IntKind.i64.wrap ((j : Int) - 1) = (q : Int) := by rw [wrap_in (by omega) (by omega)]; omega
      rw [← hq] at s2 s3 s6
      have hqj : q < j ∧ a ≤ q ∧ q < N := by omega
      clear hq hX hI hJ hz
      by_cases hxv : x.known < v.known
      · replace s6 := s6 hxv
        clear s7 hfin
        repeat' (first
          | (with_reducible refine Fresh.intro fun b hb => ?_) <;> (try simp -dsimp -implicitDefEqProofs [*] at hb)
          | (with_reducible refine Rets.xcall (by_spec _ _ _) ?_)
          | (with_reducible refine Rets.xsoft (by_spec _ _ _) ?_)
          | (with_reducible refine xlateCall_of (fun _ => by_spec _ _ _) ?_)
          | (with_reducible refine Lit.imm ?_)
          | ((with_reducible refine Grow.intro ?_ fun b cap hb hc1 hc2 => ?_); omega) <;> (try simp -dsimp -implicitDefEqProofs [*] at hb)
          | (with_reducible refine Cls_and ?_ ?_)
          | (with_reducible exact Cls.self _ _)
          | (with_reducible refine Cls_same ?_)
          | (with_reducible refine Cls_in ?_ ?_)
          | (with_reducible refine Cls_fresh ?_ ?_)
          | (with_reducible refine And.intro (fun h => ?_) (fun h => ?_)) <;> (try (exfalso; omega))
          | (with_reducible refine And.intro (fun h => ?_) ?_) <;> (try (exfalso; omega))
          | ((with_reducible refine and_keep ?_ fun hk => ?_); omega)
          | (simp -dsimp -implicitDefEqProofs [*]))
        refine DrawLate.intro [] ?_
        repeat' (first
          | (with_reducible refine Fresh.intro fun b hb => ?_) <;> (try simp -dsimp -implicitDefEqProofs [*] at hb)
          | (with_reducible refine Rets.xcall (by_spec _ _ _) ?_)
          | (with_reducible refine Rets.xsoft (by_spec _ _ _) ?_)
          | (with_reducible refine xlateCall_of (fun _ => by_spec _ _ _) ?_)
          | (with_reducible refine Lit.imm ?_)
          | ((with_reducible refine Grow.intro ?_ fun b cap hb hc1 hc2 => ?_); omega) <;> (try simp -dsimp -implicitDefEqProofs [*] at hb)
          | (with_reducible refine Cls_and ?_ ?_)
          | (with_reducible exact Cls.self _ _)
          | (with_reducible refine Cls_same ?_)
          | (with_reducible refine Cls_in ?_ ?_)
          | (with_reducible refine Cls_fresh ?_ ?_)
          | (with_reducible refine And.intro (fun h => ?_) (fun h => ?_)) <;> (try (exfalso; omega))
          | (with_reducible refine And.intro (fun h => ?_) ?_) <;> (try (exfalso; omega))
          | ((with_reducible refine and_keep ?_ fun hk => ?_); omega)
          | (simp -dsimp -implicitDefEqProofs [*]))
        refine DrawLate.intro [b] ?_
        repeat' (first
          | (with_reducible refine Fresh.intro fun b hb => ?_) <;> (try simp -dsimp -implicitDefEqProofs [*] at hb)
          | (with_reducible refine Rets.xcall (by_spec _ _ _) ?_)
          | (with_reducible refine Rets.xsoft (by_spec _ _ _) ?_)
          | (with_reducible refine xlateCall_of (fun _ => by_spec _ _ _) ?_)
          | (with_reducible refine Lit.imm ?_)
          | ((with_reducible refine Grow.intro ?_ fun b cap hb hc1 hc2 => ?_); omega) <;> (try simp -dsimp -implicitDefEqProofs [*] at hb)
          | (with_reducible refine Cls_and ?_ ?_)
          | (with_reducible exact Cls.self _ _)
          | (with_reducible refine Cls_same ?_)
          | (with_reducible refine Cls_in ?_ ?_)
          | (with_reducible refine Cls_fresh ?_ ?_)
          | (with_reducible refine And.intro (fun h => ?_) (fun h => ?_)) <;> (try (exfalso; omega))
          | (with_reducible refine And.intro (fun h => ?_) ?_) <;> (try (exfalso; omega))
          | ((with_reducible refine and_keep ?_ fun hk => ?_); omega)
          | (simp -dsimp -implicitDefEqProofs [*]))
        exact Next.intro (q, l3) ⟨hqj.2.1, s6⟩ (by simp only; omega) (by simp) (by repeat' (first | exact StLe.refl _ | (refine StLe_cons (by simp [*]; done) ?_) | (refine StLe_fresh (by simp [*]; done) ?_)))
      · have s8 : Hid (l'' = X ++ srt key (L.take (i2 - a)) ++ (L.drop (i2 - a) ++ Y)) := ⟨hfin l'' (s7 (Int.not_lt.1 hxv))⟩
        clear s6 s7 s3 hfin
        repeat' (first
          | (with_reducible refine Fresh.intro fun b hb => ?_) <;> (try simp -dsimp -implicitDefEqProofs [*] at hb)
          | (with_reducible refine Rets.xcall (by_spec _ _ _) ?_)
          | (with_reducible refine Rets.xsoft (by_spec _ _ _) ?_)
          | (with_reducible refine xlateCall_of (fun _ => by_spec _ _ _) ?_)
          | (with_reducible refine Lit.imm ?_)
          | ((with_reducible refine Grow.intro ?_ fun b cap hb hc1 hc2 => ?_); omega) <;> (try simp -dsimp -implicitDefEqProofs [*] at hb)
          | (with_reducible refine DrawLate.intro [] ?_)
          | (with_reducible refine Cls_and ?_ ?_)
          | (with_reducible exact Cls.self _ _)
          | (with_reducible refine Cls_same ?_)
          | (with_reducible refine Cls_in ?_ ?_)
          | (with_reducible refine Cls_fresh ?_ ?_)
          | (with_reducible refine And.intro (fun h => ?_) (fun h => ?_)) <;> (try (exfalso; omega))
          | (with_reducible refine And.intro (fun h => ?_) ?_) <;> (try (exfalso; omega))
          | ((with_reducible refine and_keep ?_ fun hk => ?_); omega)
          | (simp -dsimp -implicitDefEqProofs [*]))
        exact Next.intro (i2, l'') ⟨hii.2.2.1, .inl hii.2.1, hlen2, s8.out⟩ (by simp only; omega) (by simp) (by repeat' (first | exact StLe.refl _ | (refine StLe_cons (by simp [*]; done) ?_) | (refine StLe_fresh (by simp [*]; done) ?_)))
    · have hja : j = a := by omega
      subst hja
      have s8 : Hid (l'' = X ++ srt key (L.take (i2 - j)) ++ (L.drop (i2 - j) ++ Y)) := ⟨hfin l'' (ins_end hJ hU)⟩
      clear hfin hI hJ
      repeat' (first
        | (with_reducible refine Fresh.intro fun b hb => ?_) <;> (try simp -dsimp -implicitDefEqProofs [*] at hb)
        | (with_reducible refine Rets.xcall (by_spec _ _ _) ?_)
        | (with_reducible refine Rets.xsoft (by_spec _ _ _) ?_)
        | (with_reducible refine xlateCall_of (fun _ => by_spec _ _ _) ?_)
        | (with_reducible refine Lit.imm ?_)
        | ((with_reducible refine Grow.intro ?_ fun b cap hb hc1 hc2 => ?_); omega) <;> (try simp -dsimp -implicitDefEqProofs [*] at hb)
        | (with_reducible refine DrawLate.intro [] ?_)
        | (with_reducible refine Cls_and ?_ ?_)
        | (with_reducible exact Cls.self _ _)
        | (with_reducible refine Cls_same ?_)
        | (with_reducible refine Cls_in ?_ ?_)
        | (with_reducible refine Cls_fresh ?_ ?_)
        | (with_reducible refine And.intro (fun h => ?_) (fun h => ?_)) <;> (try (exfalso; omega))
        | (with_reducible refine And.intro (fun h => ?_) ?_) <;> (try (exfalso; omega))
        | ((with_reducible refine and_keep ?_ fun hk => ?_); omega)
        | (simp -dsimp -implicitDefEqProofs [*]))
      exact Next.intro (i2, l'') ⟨hii.2.2.1, .inl hii.2.1, hlen2, s8.out⟩ (by simp only; omega) (by simp) (by repeat' (first | exact StLe.refl _ | (refine StLe_cons (by simp [*]; done) ?_) | (refine StLe_fresh (by simp [*]; done) ?_)))
  · have e : l' = l2 := by rw [hl', h2.out, List.take_of_length_le (by omega), List.drop_of_length_le (by omega)]; simp
    clear hl' hX hz h2
    subst e
    repeat' (first
      | (with_reducible refine Fresh.intro fun b hb => ?_) <;> (try simp -dsimp -implicitDefEqProofs [*] at hb)
      | (with_reducible refine Lit.imm ?_)
      | ((with_reducible refine Grow.intro ?_ fun b cap hb hc1 hc2 => ?_); omega) <;> (try simp -dsimp -implicitDefEqProofs [*] at hb)
      | (with_reducible refine DrawLate.intro [] ?_)
      | (with_reducible refine Cls_and ?_ ?_)
      | (with_reducible exact Cls.self _ _)
      | (with_reducible refine Cls_same ?_)
      | (with_reducible refine Cls_in ?_ ?_)
      | (with_reducible refine Cls_fresh ?_ ?_)
      | (with_reducible refine And.intro (fun h => ?_) (fun h => ?_)) <;> (try (exfalso; omega))
      | (with_reducible refine And.intro (fun h => ?_) ?_) <;> (try (exfalso; omega))
      | ((with_reducible refine and_keep ?_ fun hk => ?_); omega)
      | (simp -dsimp -implicitDefEqProofs [*]))
    exact .drop (StLe.refl _) ⟨rfl, rfl⟩
end SortDecision
end Go.Proofs.Ythkjdppifnmakaa
