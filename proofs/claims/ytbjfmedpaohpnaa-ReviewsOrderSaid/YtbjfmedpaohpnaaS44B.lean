/- Check; what stands. -/
import Derived.Test.YtbjfmedpaohpnaaS44A
namespace Go.Proofs.Ytbjfmedpaohpnaa
open Go.Pv
set_option maxRecDepth 100000
def ok (l : List Review) : Prop := (∀ e ∈ l, validE e = true) ∧ l.Pairwise (fun a b => a.no < b.no)
instance (l : List Review) : Decidable (ok l) := inferInstanceAs (Decidable (_ ∧ _))
def lastE (l : List Review) : Int := match l.getLast? with | some e => e.no | none => -1
@[simp] theorem lastE_nil : lastE [] = -1 := rfl
@[simp] theorem lastE_snoc (l : List Review) (x : Review) : lastE (l ++ [x]) = x.no := by simp [lastE]
theorem valid_no {e : Review} (h : validE e = true) : 0 ≤ e.no ∧ e.no ≤ 1048576 := by
  unfold validE wi at h
  simp at h
  omega
theorem ok_nil : ok [] := ⟨by simp, .nil⟩
theorem ok_last {l : List Review} (h : ok l) : ∀ z ∈ l, z.no ≤ lastE l := by
  intro z hz
  rcases List.eq_nil_or_concat l with rfl | ⟨L, x, rfl⟩
  · simp at hz
  · rw [List.concat_eq_append] at *
    rw [lastE_snoc]
    rcases List.mem_append.1 hz with hz | hz
    · have := (List.pairwise_append.1 h.2).2.2 z hz x (by simp)
      omega
    · simp at hz; subst hz; omega
theorem ok_snoc {l : List Review} {x : Review} (h : ok l) : ok (l ++ [x]) ↔ validE x = true ∧ lastE l < x.no := by
  constructor
  · rintro ⟨h1, h2⟩
    refine ⟨h1 x (by simp), ?_⟩
    rcases List.eq_nil_or_concat l with rfl | ⟨L, y, rfl⟩
    · have := valid_no (h1 x (by simp)); simp; omega
    · rw [List.concat_eq_append] at *
      rw [lastE_snoc]
      exact (List.pairwise_append.1 h2).2.2 y (by simp) x (by simp)
  · rintro ⟨h1, h2⟩
    refine ⟨fun z hz => ?_, List.pairwise_append.2 ⟨h.2, by simp, fun z hz y hy => ?_⟩⟩
    · rcases List.mem_append.1 hz with hz | hz
      · exact h.1 z hz
      · simp at hz; subst hz; exact h1
    · simp at hy; subst hy
      have := ok_last h z hz
      omega
theorem ok_take {l : List Review} (h : ok l) (i : Nat) : ok (l.take i) := ⟨fun e he => h.1 e (List.mem_of_mem_take he), h.2.sublist (List.take_sublist _ _)⟩
theorem ok_step {l : List Review} {i : Nat} (hi : i < l.length) (h : ok (l.take i)) : ok (l.take (i + 1)) ↔ validE l[i] = true ∧ lastE (l.take i) < l[i].no := by
  rw [List.take_succ_eq_append_getElem hi]
  exact ok_snoc h
def checkE (l : List Review) : Int := if 1024 < l.length then 2 else if ok l then 0 else 440
theorem checkE_zero {l : List Review} : checkE l = 0 ↔ l.length ≤ 1024 ∧ ok l := by
  unfold checkE
  split
  · constructor <;> intro h <;> omega
  · split
    · constructor
      · intro _; exact ⟨by omega, by assumption⟩
      · intro _; rfl
    · constructor
      · intro h; omega
      · intro h; exact absurd h.2 (by assumption)
theorem check_no {l : List Review} {i : Nat} (hi : i < l.length) (h : ok (l.take i)) (hl : l.length ≤ 1024) (hn : validE l[i] = false ∨ l[i].no ≤ lastE (l.take i)) : checkE l = 440 := by
  have h2 : ¬ ok l := fun hk => by
    have := (ok_step hi h).1 (ok_take hk (i + 1))
    rcases hn with hn | hn
    · rw [hn] at this; exact absurd this.1 (by simp)
    · omega
  rw [checkE, if_neg (by omega), if_neg h2]
theorem lastE_step {l : List Review} {i : Nat} (hi : i < l.length) : lastE (l.take (i + 1)) = l[i].no := by
  rw [List.take_succ_eq_append_getElem hi, lastE_snoc]
theorem check_spec (t : Bool) (l : List Review) (hf : ∀ e ∈ l, fit e) (st : Store) : Rets P F.reviews_Check [Review.lst t l] st (.int (checkE l)) := by
  refine H.reviews_Check.pure hmix rfl rfl ?_
  repeat' (first
    | (with_reducible refine Fresh.intro fun b hb => ?_) <;> (try simp -dsimp -implicitDefEqProofs [*] at hb)
    | (with_reducible refine Lit.imm ?_)
    | ((with_reducible refine Grow.intro ?_ fun b cap hb hc1 hc2 => ?_); omega) <;> (try simp -dsimp -implicitDefEqProofs [*] at hb)
    | (with_reducible refine RetView.nil2 ?_)
    | (with_reducible refine RetView.nil1 ?_)
    | (with_reducible refine RetView.loose2 (t := true) ?_)
    | (with_reducible refine RetView.loose1 (t := true) ?_)
    | (with_reducible refine RetView.fz 1 ?_ ?_)
    | (with_reducible refine RetView.same ?_)
    | (with_reducible refine DrawLate.intro [] ?_)
    | (with_reducible refine Cls_and ?_ ?_)
    | (with_reducible exact Cls.self _ _)
    | (with_reducible refine Cls_same ?_)
    | (with_reducible refine Cls_in ?_ ?_)
    | (with_reducible refine Cls_fresh ?_ ?_)
    | (with_reducible refine And.intro (fun h => ?_) (fun h => ?_)) <;> (try (exfalso; omega))
    | (with_reducible refine And.intro (fun h => ?_) ?_) <;> (try (exfalso; omega))
    | ((with_reducible refine and_keep ?_ fun hk => ?_); omega)
    | (simp -dsimp -implicitDefEqProofs [*]))
  · simp [checkE]; omega
  · refine xloop_for (fun i => [(0, Review.lst t l), (3, .int (lastE (l.take i))), (9, Review.lst t l), (10, .int l.length), (11, .int (i : Nat))]) (fun _ => st) (fun i => i ≤ l.length ∧ ok (l.take i)) (fun i => l.length - i) 0 ?_ ?_ ?_ ?_
    · exact ⟨Nat.zero_le _, by simpa using ok_nil⟩
    · simp
    · exact StLe.refl _
    rintro i ⟨hi, hok⟩
    have hw := wrap_succ (n := i) (by omega)
    have hf' : ∀ h : i < l.length, fit l[i] := fun h => hf _ (List.getElem_mem h)
    generalize hlast : lastE (l.take i) = last at *
    repeat' (first
      | (with_reducible refine Fresh.intro fun b hb => ?_) <;> (try simp -dsimp -implicitDefEqProofs [*] at hb)
      | (with_reducible refine Rets.xcall (valid_spec _ (hf' (by omega)) _) ?_)
      | (with_reducible refine Rets.xsoft (valid_spec _ (hf' (by omega)) _) ?_)
      | (with_reducible refine xlateCall_of (fun _ => valid_spec _ (hf' (by omega)) _) ?_)
      | (with_reducible refine Lit.imm ?_)
      | ((with_reducible refine Grow.intro ?_ fun b cap hb hc1 hc2 => ?_); omega) <;> (try simp -dsimp -implicitDefEqProofs [*] at hb)
      | (with_reducible refine RetView.nil2 ?_)
      | (with_reducible refine RetView.nil1 ?_)
      | (with_reducible refine RetView.loose2 (t := true) ?_)
      | (with_reducible refine RetView.loose1 (t := true) ?_)
      | (with_reducible refine RetView.fz 1 ?_ ?_)
      | (with_reducible refine RetView.same ?_)
      | (with_reducible refine DrawLate.intro [] ?_)
      | (with_reducible refine Cls_and ?_ ?_)
      | (with_reducible exact Cls.self _ _)
      | (with_reducible refine Cls_same ?_)
      | (with_reducible refine Cls_in ?_ ?_)
      | (with_reducible refine Cls_fresh ?_ ?_)
      | (with_reducible refine And.intro (fun h => ?_) (fun h => ?_)) <;> (try (exfalso; omega))
      | (with_reducible refine And.intro (fun h => ?_) ?_) <;> (try (exfalso; omega))
      | ((with_reducible refine and_keep ?_ fun hk => ?_); omega)
      | (simp -dsimp -implicitDefEqProofs [*]))
    · exact (check_no ‹_› hok (by omega) (.inr (by omega))).symm
    · refine Next.intro (i + 1) ⟨by omega, (ok_step ‹_› hok).2 ⟨‹_›, by omega⟩⟩ (by omega) ?_ (by simp [*])
      simp [hw, lastE_step ‹_›]
    · exact (check_no ‹_› hok (by omega) (.inl ‹_›)).symm
    · rw [List.take_of_length_le ‹_›] at hok
      exact (checkE_zero.2 ⟨by omega, hok⟩).symm
def standsE (t : Int) (e : Review) : Bool := decide (e.opened ≤ t) && (decide (e.closed = -1) || decide (t < e.closed))
theorem standing1_gives (tt : Bool) (l : List Review) (t : Int) (hl : l.length ≤ 1024) : Gives1 P F.reviews_standing_1 [] [.iptr [Review.lst tt l] 0, .iptr [.int t] 0] ((l.filter (standsE t)).map Review.pv) := by
  intro σ S inv lp hround s hs
  refine H.reviews_standing_1.view hmix rfl rfl ?_
  repeat' (first
    | (with_reducible refine Fresh.intro fun b hb => ?_) <;> (try simp -dsimp -implicitDefEqProofs [*] at hb)
    | (with_reducible refine Lit.imm ?_)
    | ((with_reducible refine Grow.intro ?_ fun b cap hb hc1 hc2 => ?_); omega) <;> (try simp -dsimp -implicitDefEqProofs [*] at hb)
    | (with_reducible refine DrawLate.intro [] ?_)
    | (with_reducible refine Cls_and ?_ ?_)
    | (with_reducible exact Cls.self _ _)
    | (with_reducible refine Cls_same ?_)
    | (with_reducible refine Cls_in ?_ ?_)
    | (with_reducible refine Cls_fresh ?_ ?_)
    | (with_reducible refine And.intro (fun h => ?_) (fun h => ?_)) <;> (try (exfalso; omega))
    | (with_reducible refine And.intro (fun h => ?_) ?_) <;> (try (exfalso; omega))
    | ((with_reducible refine and_keep ?_ fun hk => ?_); omega)
    | (simp -dsimp -implicitDefEqProofs [*]))
  refine xloop_for (fun y : Nat × σ => [(0, .func (.yield lp) [] []), (1, .iptr [Review.lst tt l] 0), (2, .iptr [.int t] 0), (6, Review.lst tt l), (7, .int l.length), (8, .int (y.1 : Nat))]) (fun y => S y.2)
    (fun y => y.1 ≤ l.length ∧ inv (((l.take y.1).filter (standsE t)).map Review.pv) y.2) (fun y => l.length - y.1) (0, s) ?_ ?_ ?_ ?_
  · exact ⟨Nat.zero_le _, by simpa using hs⟩
  · simp
  · simp
  rintro ⟨i, s⟩ ⟨hi, hs⟩
  simp only at hi hs
  have hw := wrap_succ (n := i) (by omega)
  repeat' (first
    | (with_reducible refine Fresh.intro fun b hb => ?_) <;> (try simp -dsimp -implicitDefEqProofs [*] at hb)
    | (with_reducible refine Lit.imm ?_)
    | ((with_reducible refine Grow.intro ?_ fun b cap hb hc1 hc2 => ?_); omega) <;> (try simp -dsimp -implicitDefEqProofs [*] at hb)
    | (with_reducible refine DrawLate.intro [] ?_)
    | (with_reducible refine Cls_and ?_ ?_)
    | (with_reducible exact Cls.self _ _)
    | (with_reducible refine Cls_same ?_)
    | (with_reducible refine Cls_in ?_ ?_)
    | (with_reducible refine Cls_fresh ?_ ?_)
    | (with_reducible refine And.intro (fun h => ?_) (fun h => ?_)) <;> (try (exfalso; omega))
    | (with_reducible refine And.intro (fun h => ?_) ?_) <;> (try (exfalso; omega))
    | ((with_reducible refine and_keep ?_ fun hk => ?_); omega)
    | (simp -dsimp -implicitDefEqProofs [*]))
  · have hf : standsE t l[i] = true := by simp [standsE]; omega
    refine xround_post (PRound.le (by simp [*]) (hround _ _ s hs (filter_pre ‹_› hf))) fun e st' hq => ?_
    obtain ⟨rfl, s', hs', rfl⟩ := hq
    have hs2 : inv (((l.take (i + 1)).filter (standsE t)).map Review.pv) s' := by rw [filter_step ‹_›, hf]; simpa using hs'
    repeat' (first
      | (with_reducible refine Fresh.intro fun b hb => ?_) <;> (try simp -dsimp -implicitDefEqProofs [*] at hb)
      | (with_reducible refine Lit.imm ?_)
      | ((with_reducible refine Grow.intro ?_ fun b cap hb hc1 hc2 => ?_); omega) <;> (try simp -dsimp -implicitDefEqProofs [*] at hb)
      | (with_reducible refine DrawLate.intro [] ?_)
      | (with_reducible refine Cls_and ?_ ?_)
      | (with_reducible exact Cls.self _ _)
      | (with_reducible refine Cls_same ?_)
      | (with_reducible refine Cls_in ?_ ?_)
      | (with_reducible refine Cls_fresh ?_ ?_)
      | (with_reducible refine And.intro (fun h => ?_) (fun h => ?_)) <;> (try (exfalso; omega))
      | (with_reducible refine And.intro (fun h => ?_) ?_) <;> (try (exfalso; omega))
      | ((with_reducible refine and_keep ?_ fun hk => ?_); omega)
      | (simp -dsimp -implicitDefEqProofs [*]))
    refine Next.intro (i + 1, s') ⟨by simp only; omega, hs2⟩ (by simp only; omega) (by simp [*]) (by simp)
  · have hf : standsE t l[i] = true := by simp [standsE]; omega
    refine xround_post (PRound.le (by simp [*]) (hround _ _ s hs (filter_pre ‹_› hf))) fun e st' hq => ?_
    obtain ⟨rfl, s', hs', rfl⟩ := hq
    have hs2 : inv (((l.take (i + 1)).filter (standsE t)).map Review.pv) s' := by rw [filter_step ‹_›, hf]; simpa using hs'
    repeat' (first
      | (with_reducible refine Fresh.intro fun b hb => ?_) <;> (try simp -dsimp -implicitDefEqProofs [*] at hb)
      | (with_reducible refine Lit.imm ?_)
      | ((with_reducible refine Grow.intro ?_ fun b cap hb hc1 hc2 => ?_); omega) <;> (try simp -dsimp -implicitDefEqProofs [*] at hb)
      | (with_reducible refine DrawLate.intro [] ?_)
      | (with_reducible refine Cls_and ?_ ?_)
      | (with_reducible exact Cls.self _ _)
      | (with_reducible refine Cls_same ?_)
      | (with_reducible refine Cls_in ?_ ?_)
      | (with_reducible refine Cls_fresh ?_ ?_)
      | (with_reducible refine And.intro (fun h => ?_) (fun h => ?_)) <;> (try (exfalso; omega))
      | (with_reducible refine And.intro (fun h => ?_) ?_) <;> (try (exfalso; omega))
      | ((with_reducible refine and_keep ?_ fun hk => ?_); omega)
      | (simp -dsimp -implicitDefEqProofs [*]))
    refine Next.intro (i + 1, s') ⟨by simp only; omega, hs2⟩ (by simp only; omega) (by simp [*]) (by simp)
  · have hf : standsE t l[i] = false := by simp [standsE]; omega
    refine Next.intro (i + 1, s) ⟨by simp only; omega, ?_⟩ (by simp only; omega) (by simp [*]) (by simp [*])
    rw [filter_step ‹_›, hf]; simpa using hs
  · have hf : standsE t l[i] = false := by simp [standsE]; omega
    refine Next.intro (i + 1, s) ⟨by simp only; omega, ?_⟩ (by simp only; omega) (by simp [*]) (by simp [*])
    rw [filter_step ‹_›, hf]; simpa using hs
  · rw [List.take_of_length_le ‹_›] at hs
    exact .same ⟨rfl, s, hs, rfl⟩
theorem appendSeq_spec {g : FuncId} {fs cs : List PV} {xs : List Review} (hent : Enters P g) (hy : Gives1 P g fs cs (xs.map Review.pv)) (hl : xs.length ≤ 1024) (st : Store) :
    Rets P F.slices_AppendSeq__LapiReview_apiReview [.nil, .func (.func g) fs cs] st (Review.lst false xs) := by
  refine H.slices_AppendSeq__LapiReview_apiReview.view hmix rfl rfl ?_
  repeat' (first
    | (with_reducible refine Fresh.intro fun b hb => ?_) <;> (try simp -dsimp -implicitDefEqProofs [*] at hb)
    | (with_reducible refine Lit.imm ?_)
    | ((with_reducible refine Grow.intro ?_ fun b cap hb hc1 hc2 => ?_); omega) <;> (try simp -dsimp -implicitDefEqProofs [*] at hb)
    | (with_reducible refine DrawLate.intro [] ?_)
    | (with_reducible refine Cls_and ?_ ?_)
    | (with_reducible exact Cls.self _ _)
    | (with_reducible refine Cls_same ?_)
    | (with_reducible refine Cls_in ?_ ?_)
    | (with_reducible refine Cls_fresh ?_ ?_)
    | (with_reducible refine And.intro (fun h => ?_) (fun h => ?_)) <;> (try (exfalso; omega))
    | (with_reducible refine And.intro (fun h => ?_) ?_) <;> (try (exfalso; omega))
    | ((with_reducible refine and_keep ?_ fun hk => ?_); omega)
    | (simp -dsimp -implicitDefEqProofs [*]))
  refine xrange_func hent fun key hkey lp hlp => ?_
  simp -dsimp -implicitDefEqProofs [*] at hlp
  refine xcall_post (hy (Option (Acc Review)) (fun a => accS T.apiReview ((lp, .loop key _ .ready none) :: (b, .arr T.LapiReview [accP a]) :: st) a)
    (fun pre a => accOk Review.row 5 ((lp, .arr 0 []) :: (b, .arr 0 []) :: st) a ∧ (accL a).map Review.pv = pre) lp ?_ none ⟨trivial, rfl⟩) ?_
  · rintro pre x a ⟨ha, hpre⟩ hpx
    obtain ⟨y, rfl, -⟩ := prefix_snoc_map hpre hpx
    have hlen := prefix_snoc hpx
    rw [← hpre] at hlen ⊢
    simp only [List.length_map] at hlen
    cases a with
    | none =>
      refine pround_walkS hmix hkey (by simp; rfl) rfl ?_
      clear hkey hy
      repeat' (first
        | (with_reducible refine Fresh.intro fun b hb => ?_) <;> (try simp -dsimp -implicitDefEqProofs [*] at hb)
        | (with_reducible refine Lit.imm ?_)
        | ((with_reducible refine Grow.intro ?_ fun b cap hb hc1 hc2 => ?_); omega) <;> (try simp -dsimp -implicitDefEqProofs [*] at hb)
        | (with_reducible refine DrawLate.intro [] ?_)
        | (with_reducible refine Cls_and ?_ ?_)
        | (with_reducible exact Cls.self _ _)
        | (with_reducible refine Cls_same ?_)
        | (with_reducible refine Cls_in ?_ ?_)
        | (with_reducible refine Cls_fresh ?_ ?_)
        | (with_reducible refine And.intro (fun h => ?_) (fun h => ?_)) <;> (try (exfalso; omega))
        | (with_reducible refine And.intro (fun h => ?_) ?_) <;> (try (exfalso; omega))
        | ((with_reducible refine and_keep ?_ fun hk => ?_); omega)
        | (simp -dsimp -implicitDefEqProofs [*]))
      refine xappend_acc0 Review.row_len [y] (by simp) (by simp) (by omega) (by omega) fun a' ha' hl' hb' => ?_
      simp -dsimp -implicitDefEqProofs [*] at hb'
      have hl2 := hl'
      repeat' (first
        | (with_reducible refine Fresh.intro fun b hb => ?_) <;> (try simp -dsimp -implicitDefEqProofs [*] at hb)
        | (with_reducible refine Lit.imm ?_)
        | ((with_reducible refine Grow.intro ?_ fun b cap hb hc1 hc2 => ?_); omega) <;> (try simp -dsimp -implicitDefEqProofs [*] at hb)
        | (with_reducible refine DrawLate.intro [] ?_)
        | (with_reducible refine Cls_and ?_ ?_)
        | (with_reducible exact Cls.self _ _)
        | (with_reducible refine Cls_same ?_)
        | (with_reducible refine Cls_in ?_ ?_)
        | (with_reducible refine Cls_fresh ?_ ?_)
        | (with_reducible refine And.intro (fun h => ?_) (fun h => ?_)) <;> (try (exfalso; omega))
        | (with_reducible refine And.intro (fun h => ?_) ?_) <;> (try (exfalso; omega))
        | ((with_reducible refine and_keep ?_ fun hk => ?_); omega)
        | (simp -dsimp -implicitDefEqProofs [*]))
      exact ⟨_, (by repeat' (first | exact StLe.refl _ | (refine StLe_cons (by simp [*]; done) ?_) | (refine StLe_fresh (by simp [*]; done) ?_))), some a', ⟨⟨ha', by simp [*]⟩, by simp_all⟩, rfl⟩
    | some a =>
      obtain ⟨ha, hb2⟩ := ha
      simp only [snew_cons] at hb2
      refine pround_walkS hmix hkey (by simp [*]; rfl) rfl ?_
      clear hkey hy
      repeat' (first
        | (with_reducible refine Fresh.intro fun b hb => ?_) <;> (try simp -dsimp -implicitDefEqProofs [*] at hb)
        | (with_reducible refine Lit.imm ?_)
        | ((with_reducible refine Grow.intro ?_ fun b cap hb hc1 hc2 => ?_); omega) <;> (try simp -dsimp -implicitDefEqProofs [*] at hb)
        | (with_reducible refine DrawLate.intro [] ?_)
        | (with_reducible refine Cls_and ?_ ?_)
        | (with_reducible exact Cls.self _ _)
        | (with_reducible refine Cls_same ?_)
        | (with_reducible refine Cls_in ?_ ?_)
        | (with_reducible refine Cls_fresh ?_ ?_)
        | (with_reducible refine And.intro (fun h => ?_) (fun h => ?_)) <;> (try (exfalso; omega))
        | (with_reducible refine And.intro (fun h => ?_) ?_) <;> (try (exfalso; omega))
        | ((with_reducible refine and_keep ?_ fun hk => ?_); omega)
        | (simp -dsimp -implicitDefEqProofs [*]))
      simp only [accL_some] at hlen hpre
      refine xappend_acc Review.row_len Review.row_append ha (by simp [*]) [y] (by simp) (by simp) (by omega) fun a' ha' hl' hb' => ?_
      simp -dsimp -implicitDefEqProofs [*] at hb'
      have hl2 := hl'
      repeat' (first
        | (with_reducible refine Fresh.intro fun b hb => ?_) <;> (try simp -dsimp -implicitDefEqProofs [*] at hb)
        | (with_reducible refine Lit.imm ?_)
        | ((with_reducible refine Grow.intro ?_ fun b cap hb hc1 hc2 => ?_); omega) <;> (try simp -dsimp -implicitDefEqProofs [*] at hb)
        | (with_reducible refine DrawLate.intro [] ?_)
        | (with_reducible refine Cls_and ?_ ?_)
        | (with_reducible exact Cls.self _ _)
        | (with_reducible refine Cls_same ?_)
        | (with_reducible refine Cls_in ?_ ?_)
        | (with_reducible refine Cls_fresh ?_ ?_)
        | (with_reducible refine And.intro (fun h => ?_) (fun h => ?_)) <;> (try (exfalso; omega))
        | (with_reducible refine And.intro (fun h => ?_) ?_) <;> (try (exfalso; omega))
        | ((with_reducible refine and_keep ?_ fun hk => ?_); omega)
        | (simp -dsimp -implicitDefEqProofs [*]))
      exact ⟨_, (by repeat' (first | exact StLe.refl _ | (refine StLe_cons (by simp [*]; done) ?_) | (refine StLe_fresh (by simp [*]; done) ?_))), some a', ⟨⟨ha', by simp [*]⟩, by simp_all⟩, rfl⟩
  · rintro e st' ⟨rfl, a, ⟨ha, hxs⟩, rfl⟩
    cases a with
    | none =>
      have : xs = [] := by simpa using hxs.symm
      subst this
      repeat' (first
        | (with_reducible refine Fresh.intro fun b hb => ?_) <;> (try simp -dsimp -implicitDefEqProofs [*] at hb)
        | (with_reducible refine Lit.imm ?_)
        | ((with_reducible refine Grow.intro ?_ fun b cap hb hc1 hc2 => ?_); omega) <;> (try simp -dsimp -implicitDefEqProofs [*] at hb)
        | (with_reducible refine RetView.nil2 ?_)
        | (with_reducible refine RetView.nil1 ?_)
        | (with_reducible refine RetView.loose2 (t := true) ?_)
        | (with_reducible refine RetView.loose1 (t := true) ?_)
        | (with_reducible refine RetView.fz 9 ?_ ?_)
        | (with_reducible refine RetView.same ?_)
        | (with_reducible refine DrawLate.intro [] ?_)
        | (with_reducible refine Cls_and ?_ ?_)
        | (with_reducible exact Cls.self _ _)
        | (with_reducible refine Cls_same ?_)
        | (with_reducible refine Cls_in ?_ ?_)
        | (with_reducible refine Cls_fresh ?_ ?_)
        | (with_reducible refine And.intro (fun h => ?_) (fun h => ?_)) <;> (try (exfalso; omega))
        | (with_reducible refine And.intro (fun h => ?_) ?_) <;> (try (exfalso; omega))
        | ((with_reducible refine and_keep ?_ fun hk => ?_); omega)
        | (simp -dsimp -implicitDefEqProofs [*]))
    | some a =>
      obtain ⟨ha, hb2⟩ := ha
      simp only [snew_cons] at hb2
      have hxs : a.l = xs := (List.map_inj_right fun x y h => by cases x; cases y; simpa [Review.enc] using h).1 hxs
      subst hxs
      have h2 := ha.row
      have h3 := ha.le
      have h4 := ha.cap
      repeat' (first
        | (with_reducible refine Fresh.intro fun b hb => ?_) <;> (try simp -dsimp -implicitDefEqProofs [*] at hb)
        | (with_reducible refine Lit.imm ?_)
        | ((with_reducible refine Grow.intro ?_ fun b cap hb hc1 hc2 => ?_); omega) <;> (try simp -dsimp -implicitDefEqProofs [*] at hb)
        | (with_reducible refine RetView.nil2 ?_)
        | (with_reducible refine RetView.nil1 ?_)
        | (with_reducible refine RetView.loose2 (t := true) ?_)
        | (with_reducible refine RetView.loose1 (t := true) ?_)
        | (with_reducible refine RetView.fz 5 ?_ ?_)
        | (with_reducible refine RetView.same ?_)
        | (with_reducible refine DrawLate.intro [] ?_)
        | (with_reducible refine Cls_and ?_ ?_)
        | (with_reducible exact Cls.self _ _)
        | (with_reducible refine Cls_same ?_)
        | (with_reducible refine Cls_in ?_ ?_)
        | (with_reducible refine Cls_fresh ?_ ?_)
        | (with_reducible refine And.intro (fun h => ?_) (fun h => ?_)) <;> (try (exfalso; omega))
        | (with_reducible refine And.intro (fun h => ?_) ?_) <;> (try (exfalso; omega))
        | ((with_reducible refine and_keep ?_ fun hk => ?_); omega)
        | (simp -dsimp -implicitDefEqProofs [*]))
theorem collect_spec {g : FuncId} {fs cs : List PV} {xs : List Review} (hent : Enters P g) (hy : Gives1 P g fs cs (xs.map Review.pv)) (hl : xs.length ≤ 1024) (st : Store) :
    Rets P F.slices_Collect__apiReview [.func (.func g) fs cs] st (Review.lst false xs) := by
  refine H.slices_Collect__apiReview.pure hmix rfl rfl ?_
  repeat' (first
    | (with_reducible refine Fresh.intro fun b hb => ?_) <;> (try simp -dsimp -implicitDefEqProofs [*] at hb)
    | (with_reducible refine Rets.xcall (appendSeq_spec hent hy hl _) ?_)
    | (with_reducible refine Rets.xsoft (appendSeq_spec hent hy hl _) ?_)
    | (with_reducible refine xlateCall_of (fun _ => appendSeq_spec hent hy hl _) ?_)
    | (with_reducible refine Lit.imm ?_)
    | ((with_reducible refine Grow.intro ?_ fun b cap hb hc1 hc2 => ?_); omega) <;> (try simp -dsimp -implicitDefEqProofs [*] at hb)
    | (with_reducible refine RetView.nil2 ?_)
    | (with_reducible refine RetView.nil1 ?_)
    | (with_reducible refine RetView.loose2 (t := true) ?_)
    | (with_reducible refine RetView.loose1 (t := true) ?_)
    | (with_reducible refine RetView.fz 1 ?_ ?_)
    | (with_reducible refine RetView.same ?_)
    | (with_reducible refine DrawLate.intro [] ?_)
    | (with_reducible refine Cls_and ?_ ?_)
    | (with_reducible exact Cls.self _ _)
    | (with_reducible refine Cls_same ?_)
    | (with_reducible refine Cls_in ?_ ?_)
    | (with_reducible refine Cls_fresh ?_ ?_)
    | (with_reducible refine And.intro (fun h => ?_) (fun h => ?_)) <;> (try (exfalso; omega))
    | (with_reducible refine And.intro (fun h => ?_) ?_) <;> (try (exfalso; omega))
    | ((with_reducible refine and_keep ?_ fun hk => ?_); omega)
    | (simp -dsimp -implicitDefEqProofs [*]))
theorem standingF_spec (tt : Bool) (l : List Review) (t : Int) (st : Store) : Rets P F.reviews_standing [Review.lst tt l, .int t] st (.func (.func F.reviews_standing_1) [] [.iptr [Review.lst tt l] 0, .iptr [.int t] 0]) := by
  refine H.reviews_standing.view hmix rfl rfl ?_
  repeat' (first
    | (with_reducible refine Fresh.intro fun b hb => ?_) <;> (try simp -dsimp -implicitDefEqProofs [*] at hb)
    | (with_reducible refine Lit.imm ?_)
    | ((with_reducible refine Grow.intro ?_ fun b cap hb hc1 hc2 => ?_); omega) <;> (try simp -dsimp -implicitDefEqProofs [*] at hb)
    | (with_reducible refine RetView.nil2 ?_)
    | (with_reducible refine RetView.nil1 ?_)
    | (with_reducible refine RetView.loose2 (t := true) ?_)
    | (with_reducible refine RetView.loose1 (t := true) ?_)
    | (with_reducible refine RetView.fz 1 ?_ ?_)
    | (with_reducible refine RetView.same ?_)
    | (with_reducible refine DrawLate.intro [] ?_)
    | (with_reducible refine Cls_and ?_ ?_)
    | (with_reducible exact Cls.self _ _)
    | (with_reducible refine Cls_same ?_)
    | (with_reducible refine Cls_in ?_ ?_)
    | (with_reducible refine Cls_fresh ?_ ?_)
    | (with_reducible refine And.intro (fun h => ?_) (fun h => ?_)) <;> (try (exfalso; omega))
    | (with_reducible refine And.intro (fun h => ?_) ?_) <;> (try (exfalso; omega))
    | ((with_reducible refine and_keep ?_ fun hk => ?_); omega)
    | (simp -dsimp -implicitDefEqProofs [*]))
def standN (l : List Review) (t : Int) : Int := if checkE l ≠ 0 then checkE l else if wi t 2097152 then 0 else 1
def standL (l : List Review) (t : Int) : List Review := if standN l t = 0 then l.filter (standsE t) else []
theorem standing_spec (tt : Bool) (l : List Review) (hf : ∀ e ∈ l, fit e) (t : Int) (st : Store) : Rets P F.reviews_Standing [Review.lst tt l, .int t] st (.tuple [Review.lst false (standL l t), .int (standN l t)]) := by
  refine H.reviews_Standing.view hmix rfl rfl ?_
  by_cases hc : checkE l = 0
  · obtain ⟨hl, hok⟩ := checkE_zero.1 hc
    by_cases ht : wi t 2097152 = true
    · have hN : standN l t = 0 := by simp_all [standN]
      have hL : standL l t = l.filter (standsE t) := by simp [standL, hN]
      have hy := standing1_gives tt l t hl
      have hlen : (l.filter (standsE t)).length ≤ 1024 := Nat.le_trans (List.length_filter_le ..) hl
      repeat' (first
        | (with_reducible refine Fresh.intro fun b hb => ?_) <;> (try simp -dsimp -implicitDefEqProofs [*] at hb)
        | (with_reducible refine Rets.xcall (check_spec _ _ hf _) ?_)
        | (with_reducible refine Rets.xsoft (check_spec _ _ hf _) ?_)
        | (with_reducible refine xlateCall_of (fun _ => check_spec _ _ hf _) ?_)
        | (with_reducible refine Rets.xcall (within_spec ..) ?_)
        | (with_reducible refine Rets.xsoft (within_spec ..) ?_)
        | (with_reducible refine xlateCall_of (fun _ => within_spec ..) ?_)
        | (with_reducible refine Rets.xcall (standingF_spec _ _ _ _) ?_)
        | (with_reducible refine Rets.xsoft (standingF_spec _ _ _ _) ?_)
        | (with_reducible refine xlateCall_of (fun _ => standingF_spec _ _ _ _) ?_)
        | (with_reducible refine Rets.xcall (collect_spec H.reviews_standing_1.enters hy hlen _) ?_)
        | (with_reducible refine Rets.xsoft (collect_spec H.reviews_standing_1.enters hy hlen _) ?_)
        | (with_reducible refine xlateCall_of (fun _ => collect_spec H.reviews_standing_1.enters hy hlen _) ?_)
        | (with_reducible refine Lit.imm ?_)
        | ((with_reducible refine Grow.intro ?_ fun b cap hb hc1 hc2 => ?_); omega) <;> (try simp -dsimp -implicitDefEqProofs [*] at hb)
        | (with_reducible refine DrawLate.intro [] ?_)
        | (with_reducible refine Cls_and ?_ ?_)
        | (with_reducible exact Cls.self _ _)
        | (with_reducible refine Cls_same ?_)
        | (with_reducible refine Cls_in ?_ ?_)
        | (with_reducible refine Cls_fresh ?_ ?_)
        | (with_reducible refine And.intro (fun h => ?_) (fun h => ?_)) <;> (try (exfalso; omega))
        | (with_reducible refine And.intro (fun h => ?_) ?_) <;> (try (exfalso; omega))
        | ((with_reducible refine and_keep ?_ fun hk => ?_); omega)
        | (simp -dsimp -implicitDefEqProofs [*]))
      exact .same ⟨rfl, rfl⟩
    · have hN : standN l t = 1 := by simp_all [standN]
      have hL : standL l t = [] := by simp [standL, hN]
      repeat' (first
        | (with_reducible refine Fresh.intro fun b hb => ?_) <;> (try simp -dsimp -implicitDefEqProofs [*] at hb)
        | (with_reducible refine Rets.xcall (check_spec _ _ hf _) ?_)
        | (with_reducible refine Rets.xsoft (check_spec _ _ hf _) ?_)
        | (with_reducible refine xlateCall_of (fun _ => check_spec _ _ hf _) ?_)
        | (with_reducible refine Rets.xcall (within_spec ..) ?_)
        | (with_reducible refine Rets.xsoft (within_spec ..) ?_)
        | (with_reducible refine xlateCall_of (fun _ => within_spec ..) ?_)
        | (with_reducible refine Lit.imm ?_)
        | ((with_reducible refine Grow.intro ?_ fun b cap hb hc1 hc2 => ?_); omega) <;> (try simp -dsimp -implicitDefEqProofs [*] at hb)
        | (with_reducible refine RetView.nil2 ?_)
        | (with_reducible refine RetView.nil1 ?_)
        | (with_reducible refine RetView.loose2 (t := true) ?_)
        | (with_reducible refine RetView.loose1 (t := true) ?_)
        | (with_reducible refine RetView.fz 9 ?_ ?_)
        | (with_reducible refine RetView.same ?_)
        | (with_reducible refine DrawLate.intro [] ?_)
        | (with_reducible refine Cls_and ?_ ?_)
        | (with_reducible exact Cls.self _ _)
        | (with_reducible refine Cls_same ?_)
        | (with_reducible refine Cls_in ?_ ?_)
        | (with_reducible refine Cls_fresh ?_ ?_)
        | (with_reducible refine And.intro (fun h => ?_) (fun h => ?_)) <;> (try (exfalso; omega))
        | (with_reducible refine And.intro (fun h => ?_) ?_) <;> (try (exfalso; omega))
        | ((with_reducible refine and_keep ?_ fun hk => ?_); omega)
        | (simp -dsimp -implicitDefEqProofs [*]))
  · have hN : standN l t = checkE l := by simp_all [standN]
    have hL : standL l t = [] := by simp [standL, hN, hc]
    repeat' (first
      | (with_reducible refine Fresh.intro fun b hb => ?_) <;> (try simp -dsimp -implicitDefEqProofs [*] at hb)
      | (with_reducible refine Rets.xcall (check_spec _ _ hf _) ?_)
      | (with_reducible refine Rets.xsoft (check_spec _ _ hf _) ?_)
      | (with_reducible refine xlateCall_of (fun _ => check_spec _ _ hf _) ?_)
      | (with_reducible refine Lit.imm ?_)
      | ((with_reducible refine Grow.intro ?_ fun b cap hb hc1 hc2 => ?_); omega) <;> (try simp -dsimp -implicitDefEqProofs [*] at hb)
      | (with_reducible refine RetView.nil2 ?_)
      | (with_reducible refine RetView.nil1 ?_)
      | (with_reducible refine RetView.loose2 (t := true) ?_)
      | (with_reducible refine RetView.loose1 (t := true) ?_)
      | (with_reducible refine RetView.fz 9 ?_ ?_)
      | (with_reducible refine RetView.same ?_)
      | (with_reducible refine DrawLate.intro [] ?_)
      | (with_reducible refine Cls_and ?_ ?_)
      | (with_reducible exact Cls.self _ _)
      | (with_reducible refine Cls_same ?_)
      | (with_reducible refine Cls_in ?_ ?_)
      | (with_reducible refine Cls_fresh ?_ ?_)
      | (with_reducible refine And.intro (fun h => ?_) (fun h => ?_)) <;> (try (exfalso; omega))
      | (with_reducible refine And.intro (fun h => ?_) ?_) <;> (try (exfalso; omega))
      | ((with_reducible refine and_keep ?_ fun hk => ?_); omega)
      | (simp -dsimp -implicitDefEqProofs [*]))
end Go.Proofs.Ytbjfmedpaohpnaa
