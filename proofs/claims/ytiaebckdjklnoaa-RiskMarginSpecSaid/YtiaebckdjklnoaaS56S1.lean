/- slices.SortFunc and Clone on ints; Margin. -/
import Derived.Test.YtiaebckdjklnoaaS56S0
import Derived.Test.YtiaebckdjklnoaaLSr
import Derived.Test.YtiaebckdjklnoaaS56R
import Derived.WalkKit
namespace Go.Proofs.Ytiaebckdjklnoaa
open Go.Pv
set_option maxRecDepth 100000
set_option maxHeartbeats 8000000
theorem cmp_walk (x y : Num) (w : World) : Calls Try.prog F.risk_Margin_2 #[numV x, numV y] w fun e w' => e = .returned (.int .i64 (cfN x y)) ∧ w' = w := by
  obtain ⟨x, hx⟩ := x
  obtain ⟨y, hy⟩ := y
  have hw : IntKind.i64.wrap (y - x) = y - x := wrap_in (by omega) (by omega)
  unfold numV cfN
  simp only
  go_enter Try.func26, Try.ntmps26
  go_wp2
  go_ret
  exact ⟨rfl, rfl⟩
theorem sort_does {l : List Int} (hl : Small62 l) (hs : l.length ≤ 100000) {b cap : Nat} {C : List PV} {st : Store} (hn : snew st b) :
    Does P F.slices_SortFunc__Lint_int [.own b 0 l.length cap, .func (.func F.risk_Margin_2) [] []] ((b, .arr T.int (intRow l ++ C)) :: st) (.tuple []) ((b, .arr T.int (intRow (sortL l) ++ C)) :: st) :=
  sortF Try.sortI rfl H.slices_SortFunc__Lint_int.enters (fun args w => callFunc_run H.risk_Margin_2.enters args w) cmp_walk hl hn (by omega)
theorem sort0 (f : PV) (st : Store) : Rets P F.slices_SortFunc__Lint_int [.list true [] 0, f] st (.tuple []) := by
  have h0 := bitsLen0 Try.sortI (f := F.math_bits_Len) rfl H.math_bits_Len.enters
  have h1 : ∀ st : Store, Rets P F.slices_insertionSortCmpFunc__int [.list true [] 0, .int 0, .int 0, f] st (.tuple []) := fun st => by
    refine H.slices_insertionSortCmpFunc__int.pure hmix rfl rfl ?_
    repeat' (simp -dsimp -implicitDefEqProofs [*])
    refine xloop_for (fun _ : Unit => [(2, .int 0), (8, .int 1)]) (fun _ => st) (fun _ => True) (fun _ => 0) () trivial (by simp) (by simp) ?_
    rintro - -
    repeat' (simp -dsimp -implicitDefEqProofs [*])
  have h2 : ∀ st : Store, Rets P F.slices_pdqsortCmpFunc__int [.list true [] 0, .int 0, .int 0, .int 0, f] st (.tuple []) := fun st => by
    refine H.slices_pdqsortCmpFunc__int.pure hmix rfl rfl ?_
    repeat' (simp -dsimp -implicitDefEqProofs [*])
    refine xloop_for (fun _ : Unit => [(0, .list true [] 0), (1, .int 0), (2, .int 0), (3, .int 0), (4, f)]) (fun _ => st) (fun _ => True) (fun _ => 0) () trivial (by simp) (by simp) ?_
    rintro - -
    repeat' (first 
     | (with_reducible refine Rets.xcall (h1 _) ?_)
     | (simp -dsimp -implicitDefEqProofs [*]))
  have hz : IntKind.u64.wrap 0 = 0 := rfl
  refine H.slices_SortFunc__Lint_int.pure hmix rfl rfl ?_
  repeat' (first 
   | (with_reducible refine Rets.xcall (h0 _) ?_)
   | (with_reducible refine Rets.xcall (h2 _) ?_)
   | (simp -dsimp -implicitDefEqProofs [*]))
def CloneI (l : List Int) (st : Store) (e : PEnd) (s : Store) : Prop :=
  l = [] ∧ e = .ret (.list true [] 0) ∧ s = st ∨ ∃ b cap C, snew st b ∧ l.length ≤ cap ∧ cap ≤ 9223372036854775807 ∧ e = .ret (.own b 0 l.length cap) ∧ s = (b, .arr T.int (intRow l ++ C)) :: st
theorem clone_own (t : Bool) (l : List Int) (hl : l.length ≤ 8192) (st : Store) : PCalls P F.slices_Clone__Lint_int [intLst t l] st (CloneI l st) := by
  refine H.slices_Clone__Lint_int.view hmix rfl rfl ?_
  repeat' (first 
   | (with_reducible refine Lit.imm ?_)
   | ((with_reducible refine Grow.intro ?_ fun b cap hb hc1 hc2 => ?_); omega) <;> (try simp -dsimp -implicitDefEqProofs [*] at hb)
   | (with_reducible refine And.intro (fun h => ?_) (fun h => ?_)) <;> (try (exfalso; omega))
   | (with_reducible refine And.intro (fun h => ?_) ?_) <;> (try (exfalso; omega))
   | (simp -dsimp -implicitDefEqProofs [*]))
  · have : l = [] := by cases l with
      | nil => rfl
      | cons => simp [intRow] at h
    exact .sees (.nil _) (.same (.inl ⟨this, rfl, rfl⟩))
  · exact .same (.inl ⟨rfl, rfl, rfl⟩)
  · exact .same (.inr ⟨_, _, _, hb, hc1, hc2, rfl, rfl⟩)
theorem odd1_spec (n : Int) (st : Store) : Rets P F.risk_Margin_1 [.int n] st (.bool (!wi n 1048576)) := by
  have c := within_spec n 1048576
  cases h : wi n 1048576
  · rw [h] at c
    clear h
    refine H.risk_Margin_1.pure hmix rfl rfl ?_
    repeat' (first 
     | (with_reducible refine Rets.xcall (c _) ?_)
     | (simp -dsimp -implicitDefEqProofs [*]))
  · rw [h] at c
    clear h
    refine H.risk_Margin_1.pure hmix rfl rfl ?_
    repeat' (first 
     | (with_reducible refine Rets.xcall (c _) ?_)
     | (simp -dsimp -implicitDefEqProofs [*]))
/-- What can be asked. -/
def MargIn (gap : Int) (l : List Int) : Prop := (0 ≤ gap ∧ gap ≤ 1099511627776) ∧ ∀ x ∈ l, 0 ≤ x ∧ x ≤ 1048576
theorem MargIn.small {gap : Int} {l : List Int} (h : MargIn gap l) : Small62 l := fun x hx => by have := h.2 x hx; omega
theorem margin_spec {gap : Int} {l : List Int} (h : MargIn gap l) (hn : l.length ≤ 4096) {v : Nat} (hv : Marg (sortL l) gap v) (t : Bool) (st : Store) : Rets P F.risk_Margin [.int gap, intLst t l] st (.tuple [.int v, .int 0]) := by
  have c1 := within_spec gap 1099511627776
  have c2 := containsFunc_spec F.risk_Margin_1 (fun n => !wi n 1048576) (fun d st => odd1_spec d st) t l (by omega)
  have e1 : wi gap 1099511627776 = true := by simp [wi, h.1]
  have e2 : l.any (fun n => !wi n 1048576) = false := by
    rw [List.any_eq_false]
    intro x hx
    have := h.2 x hx
    simp [wi, this]
  rw [e1] at c1
  rw [e2] at c2
  have c3 := clone_own t l (by omega)
  obtain ⟨s, hs⟩ : ∃ s, s = sortL l := ⟨_, rfl⟩
  have hp := (sortL_facts h.small).1
  have ls : s.length = l.length := by rw [hs]; exact hp.length_eq
  have hb1 : ∀ x ∈ s, 0 ≤ x ∧ x ≤ 1048576 := fun x hx => h.2 x (hp.mem_iff.1 (hs ▸ hx))
  have hg := h.1
  have kS : Hid (Small62 l ∧ s = sortL l) := ⟨h.small, hs⟩
  rw [← hs] at hv
  have kv : Hid _ := ⟨hv⟩
  clear hv
  have hsum : Hid (∀ k, k ≤ l.length → 0 ≤ (s.take k).sum ∧ (s.take k).sum ≤ 4294967296) := ⟨fun k hk => by
    have h1 := take_sum_le (fun x hx => (hb1 x hx).2) (by decide) k
    have h2 := take_sum_mono (fun x hx => (hb1 x hx).1) (Nat.zero_le k)
    simp only [List.take_zero, List.sum_nil] at h2
    omega⟩
  have hnn : Hid (∀ x ∈ s, 0 ≤ x) := ⟨fun x hx => (hb1 x hx).1⟩
  clear e1 e2 hs hp h hb1
  refine H.risk_Margin.view hmix rfl rfl ?_
  repeat' (first 
   | (with_reducible refine Rets.xcall (c1 _) ?_)
   | (with_reducible refine Rets.xcall (c2 _) ?_)
   | (with_reducible refine And.intro (fun h => ?_) (fun h => ?_)) <;> (try (exfalso; omega))
   | (simp -dsimp -implicitDefEqProofs [*]))
  refine xcall_post (c3 _) fun e s1 hq => ?_
  rcases hq with ⟨rfl, rfl, rfl⟩ | ⟨b, cap, C, hb, hc1, hc2, rfl, rfl⟩
  · have e3 : s = [] := List.length_eq_zero_iff.1 ls
    subst e3
    clear c3 c1 c2
    repeat' (first 
     | (with_reducible refine Rets.xcall (sort0 _ _) ?_)
     | (simp -dsimp -implicitDefEqProofs [*]))
    refine xloop_for (fun _ : Unit => [(7, .int 0), (6, .list true [] 0), (5, .int 0), (4, .int 0), (0, .int gap)]) (fun _ => s1) (fun _ => True) (fun _ => 0) () trivial (by simp) (.refl _) ?_
    rintro - -
    clear ls hn h hg
    by_cases hg0 : 0 < gap
    · have e : v = 1 := kv.out.uniq (Marg.none (s := []) (gap := gap) fun j hj => by simpa using hg0)
      subst e
      clear kv hsum hnn
      repeat' (simp -dsimp -implicitDefEqProofs [*])
      exact RetView.drop (st' := s1) (by repeat' (first | exact StLe.refl _ | (refine StLe_cons (by simp [*]; done) ?_) | (refine StLe_fresh (by simp [*]; done) ?_))) ⟨rfl, rfl⟩
    · have e := kv.out.uniq (Marg.reach (s := []) (gap := gap) (w := 0) (by simp) (Nat.zero_le _) (fun j hj => absurd hj (Nat.not_lt_zero _)) (by simp; omega))
      subst e
      clear kv hsum hnn
      repeat' (simp -dsimp -implicitDefEqProofs [*])
      exact RetView.drop (st' := s1) (by repeat' (first | exact StLe.refl _ | (refine StLe_cons (by simp [*]; done) ?_) | (refine StLe_fresh (by simp [*]; done) ?_))) ⟨rfl, rfl⟩
  · have cs := sort_does (b := b) (cap := cap) (C := C) kS.out.1 (by omega) hb
    rw [← kS.out.2] at cs
    clear c3 c1 c2 kS
    repeat' (first 
     | (with_reducible refine Does.xcall (cs) ?_)
     | (simp -dsimp -implicitDefEqProofs [*]))
    clear cs
    have rl : (intRow s).length = l.length := by rw [intRow_length]; exact ls
    refine xloop_for (fun y : Nat => [(7, .int ((s.take y).sum)), (6, .own b 0 l.length cap), (5, .int 0), (4, .int y), (0, .int gap)]) (fun _ => (b, .arr T.int (intRow s ++ C)) :: st) (fun y => y ≤ l.length ∧ Hid (∀ j, j < y → (s.take j).sum < gap)) (fun y => l.length - y) 0
      ⟨Nat.zero_le _, ⟨fun j hj => absurd hj (Nat.not_lt_zero _)⟩⟩ (by simp) (.refl _) ?_
    rintro i ⟨hi, hj⟩
    have x5 := wrap_succ (n := i) (by omega)
    obtain ⟨u, hu⟩ : ∃ u, u = (s.take i).sum := ⟨_, rfl⟩
    by_cases hg0 : u < gap
    · by_cases hil : i = l.length
      · have e := kv.out.uniq (Marg.none (s := s) (gap := gap) fun j hj2 => by
          by_cases hji : j < i
          · exact hj.out j hji
          · have : j = i := by omega
            rw [this, ← hu]; exact hg0)
        have e : v = l.length + 1 := by omega
        subst e
        subst hil
        rw [← hu]
        clear kv hsum hnn hj hu
        repeat' (simp -dsimp -implicitDefEqProofs [*])
        exact RetView.drop (st' := st) (by repeat' (first | exact StLe.refl _ | (refine StLe_cons (by simp [*]; done) ?_) | (refine StLe_fresh (by simp [*]; done) ?_))) ⟨rfl, rfl⟩
      · have hs1 : i < s.length := by omega
        have es : (s.take (i + 1)).sum = u + s[i] := by
          rw [hu, List.take_succ_eq_append_getElem hs1, List.sum_append]
          simp
        have hb2 := hsum.out (i + 1) (by omega)
        have x6 : IntKind.i64.wrap (u + s[i]) = u + s[i] := by rw [← es]; exact wrap_in (by omega) (by omega)
        have gr : (intRow s ++ C)[i]? = some (.int s[i]) := by
          rw [List.getElem?_append_left (by rw [rl]; omega), intRow_get s i hs1]
        have hj2 : Hid (∀ j, j < i + 1 → (s.take j).sum < gap) := ⟨fun j h2 => by
          rcases Nat.lt_succ_iff_lt_or_eq.1 h2 with h3 | h3
          · exact hj.out j h3
          · rw [h3, ← hu]; exact hg0⟩
        have kes : Hid _ := ⟨es⟩
        rw [← hu]
        clear kv hsum hnn hj es hb2 hu
        obtain ⟨a, ha⟩ : ∃ a, a = s[i] := ⟨_, rfl⟩
        rw [← ha] at x6 gr
        have ka : Hid _ := ⟨ha⟩
        clear ha
        repeat' (first 
         | (with_reducible refine And.intro (fun h => ?_) (fun h => ?_)) <;> (try (exfalso; omega))
         | ((with_reducible refine and_keep ?_ fun hk => ?_); omega)
         | (simp -dsimp -implicitDefEqProofs [*]))
        exact Next.intro (i + 1) ⟨by omega, hj2⟩ (by omega) (by simp [kes.out, ka.out]) (.refl _)
    · have e := kv.out.uniq (Marg.reach (s := s) (gap := gap) (w := i) hnn.out (by omega) hj.out (by omega))
      subst e
      rw [← hu]
      clear kv hsum hnn hj hu
      repeat' (simp -dsimp -implicitDefEqProofs [*])
      exact RetView.drop (st' := st) (by repeat' (first | exact StLe.refl _ | (refine StLe_cons (by simp [*]; done) ?_) | (refine StLe_fresh (by simp [*]; done) ?_))) ⟨rfl, rfl⟩
end Go.Proofs.Ytiaebckdjklnoaa
