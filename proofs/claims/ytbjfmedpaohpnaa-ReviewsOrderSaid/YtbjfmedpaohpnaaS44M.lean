/- ReviewsOnce: facts. -/
import Derived.Test.YtbjfmedpaohpnaaS44L
import Derived.Test.YtbjfmedpaohpnaaLKm
namespace Go.Proofs.Ytbjfmedpaohpnaa
open Go.Pv
set_option maxRecDepth 100000
set_option maxHeartbeats 4000000
theorem standsL_spec (tt : Bool) (l : List Review) (hf : ∀ e ∈ l, fit e) (hl : l.length ≤ 1024) (no t : Int) (st : Store) : Rets P F.podiumlaw44_stands [Review.lst tt l, .int no, .int t] st (.tuple [.bool (decide (0 ≤ idx (standL l t) no)), .bool (decide (standN l t = 0))]) := by
  refine H.podiumlaw44_stands.pure hmix rfl rfl ?_
  have h2 := standL_len l t
  repeat' (first
    | (with_reducible refine Fresh.intro fun b hb => ?_) <;> (try simp -dsimp -implicitDefEqProofs [*] at hb)
    | (with_reducible refine Rets.xcall (standing_spec _ _ hf _ _) ?_)
    | (with_reducible refine Rets.xsoft (standing_spec _ _ hf _ _) ?_)
    | (with_reducible refine xlateCall_of (fun _ => standing_spec _ _ hf _ _) ?_)
    | (with_reducible refine Rets.xcall (refIndex_spec _ _ _ (by omega) _) ?_)
    | (with_reducible refine Rets.xsoft (refIndex_spec _ _ _ (by omega) _) ?_)
    | (with_reducible refine xlateCall_of (fun _ => refIndex_spec _ _ _ (by omega) _) ?_)
    | (with_reducible refine Lit.imm ?_)
    | ((with_reducible refine Grow.intro ?_ fun b cap hb hc1 hc2 => ?_); omega) <;> (try simp -dsimp -implicitDefEqProofs [*] at hb)
    | (with_reducible refine RetView.nil2 ?_)
    | (with_reducible refine RetView.nil1 ?_)
    | (with_reducible refine RetView.loose2 (t := true) ?_)
    | (with_reducible refine RetView.loose1 (t := true) ?_)
    | (with_reducible refine RetView.fz 1 ?_ ?_)
    | (with_reducible refine RetView.same ?_)
    | (with_reducible refine DrawLate.intro [] ?_)
    | (with_reducible refine Cls_and ?_ ?_)
    | (with_reducible exact Cls.self _ _)
    | (with_reducible refine Cls_same ?_)
    | (with_reducible refine Cls_in ?_ ?_)
    | (with_reducible refine Cls_fresh ?_ ?_)
    | (with_reducible refine And.intro (fun h => ?_) (fun h => ?_)) <;> (try (exfalso; omega))
    | (with_reducible refine And.intro (fun h => ?_) ?_) <;> (try (exfalso; omega))
    | ((with_reducible refine and_keep ?_ fun hk => ?_); omega)
    | (simp -dsimp -implicitDefEqProofs [*]))
abbrev RM := KM Int Review
/-- The map holds what the list holds. -/
structure Same (l : List Review) (m : RM) : Prop where
  ok : ok l
  fits : ∀ e ∈ l, fit e
  wf : KM.wf m
  len : m.length = l.length
  look : ∀ n y, m.look n = some y ↔ y ∈ l ∧ y.no = n
theorem Same.nil : Same [] ([] : RM) := ⟨ok_nil, by simp, KM.wf_nil, rfl, by simp [KM.look, KM.at?]⟩
theorem Same.absent {l : List Review} {m : RM} (h : Same l m) {n : Int} (hh : has l n = false) : m.look n = none := by
  cases hm : m.look n with
  | none => rfl
  | some y =>
    obtain ⟨h1, h2⟩ := (h.look n y).1 hm
    exact absurd h2 (has_false.1 hh y h1)
theorem Same.opens {l : List Review} {m : RM} (h : Same l m) {no f t : Int} (hn : openN l no f t = 0) : m.look no = none ∧ Same (openL l no f t) (m.put no (opened no f t)) := by
  obtain ⟨h1, h2, h3, h4⟩ := openN_zero.1 hn
  have hl := h.absent h3
  refine ⟨hl, (openL_ok hn).2, openL_fit h.fits _ _ _, h.wf.put _ _, ?_, fun n y => ?_⟩
  · rw [KM.length_put, hl, openL_length hn, h.len]; rfl
  · rw [KM.look_put, mem_openL hn]
    split
    · rename_i e
      subst e
      constructor
      · intro e; cases e; exact ⟨.inl rfl, rfl⟩
      · rintro ⟨rfl | hy, hyn⟩
        · rfl
        · exact absurd hyn (has_false.1 h3 y hy)
    · rename_i e
      rw [h.look]
      constructor
      · rintro ⟨k1, k2⟩; exact ⟨.inr k1, k2⟩
      · rintro ⟨rfl | k1, k2⟩
        · exact absurd k2.symm e
        · exact ⟨k1, k2⟩
theorem mem_closeL {l : List Review} {no t v : Int} (hn : closeN l no t v = 0) (hp : pos l no < l.length) (y : Review) : y ∈ closeL l no t v ↔ y = shut l[pos l no] t v ∨ y ∈ l ∧ y.no ≠ no := by
  obtain ⟨_, hc, h1, h2, h3, h4, h5⟩ := closeN_zero hn
  obtain ⟨-, hok⟩ := checkE_zero.1 hc
  constructor
  · intro hy
    rw [h5] at hy
    obtain ⟨k, hk, e⟩ := List.mem_iff_getElem.1 hy
    rw [List.getElem_set] at e
    split at e
    · exact .inl e.symm
    · rename_i hne
      have hk' : k < l.length := by simpa using hk
      refine .inr ⟨e ▸ List.getElem_mem hk', fun hno => ?_⟩
      rcases Nat.lt_trichotomy k (pos l no) with h | h | h
      · have := sortedE hok k (pos l no) h hp hk'; rw [e, hno] at this; omega
      · exact hne h.symm
      · have := sortedE hok (pos l no) k h hk' hp; rw [e, hno] at this; omega
  · rintro (rfl | ⟨hy, hne⟩)
    · rw [h5]
      exact List.mem_iff_getElem.2 ⟨pos l no, by simpa using hp, List.getElem_set_self _⟩
    · exact closeL_mem hn hy hne
theorem Same.shuts {l : List Review} {m : RM} (h : Same l m) {no t v : Int} (hv : I64 v) (hn : closeN l no t v = 0) : ∃ e, m.look no = some e ∧ e.closed = -1 ∧ e.opened ≤ t ∧ Same (closeL l no t v) (m.put no (shut e t v)) := by
  obtain ⟨hp, hc, h1, h2, h3, h4, h5⟩ := closeN_zero hn
  have hl : m.look no = some l[pos l no] := (h.look _ _).2 ⟨List.getElem_mem hp, h1⟩
  refine ⟨l[pos l no], hl, h2, (shut_valid (by omega) h4).1, closeL_ok hn, closeL_fit h.fits _ _ hv, h.wf.put _ _, ?_, fun n y => ?_⟩
  · rw [KM.length_put, hl, closeL_length hn, h.len]; rfl
  · rw [KM.look_put, mem_closeL hn hp]
    split
    · rename_i e
      subst e
      constructor
      · intro e; cases e; exact ⟨.inl rfl, h1⟩
      · rintro ⟨rfl | hy, hyn⟩
        · rfl
        · exact absurd hyn hy.2
    · rename_i e
      rw [h.look]
      constructor
      · rintro ⟨k1, k2⟩; exact ⟨.inr ⟨k1, by rw [k2]; exact e⟩, k2⟩
      · rintro ⟨rfl | k1, k2⟩
        · exact absurd (k2.symm.trans h1) e
        · exact ⟨k1.1, k2⟩
/-- Whether an element stands, by its number. -/
theorem stands_idx {l : List Review} (hok : ok l) (hl : l.length ≤ 1024) {x : Review} (hx : x ∈ l) {t : Int} (ht : wi t 2097152 = true) : standN l t = 0 ∧ decide (0 ≤ idx (standL l t) x.no) = standsE t x := by
  have hN := standN_zero.2 ⟨checkE_zero.2 ⟨hl, hok⟩, ht⟩
  refine ⟨hN, ?_⟩
  have e : standL l t = l.filter (standsE t) := by simp [standL, hN]
  rw [e]
  rw [Bool.eq_iff_iff, decide_eq_true_iff, idx_nonneg]
  unfold has
  rw [List.any_eq_true]
  constructor
  · rintro ⟨y, hy, hyn⟩
    obtain ⟨h1, h2⟩ := List.mem_filter.1 hy
    have hyn : y.no = x.no := by simpa using hyn
    obtain ⟨i, hi, rfl⟩ := List.mem_iff_getElem.1 h1
    obtain ⟨j, hj, rfl⟩ := List.mem_iff_getElem.1 hx
    rcases Nat.lt_trichotomy i j with h | h | h
    · have := sortedE hok i j h hj hi; omega
    · subst h; exact h2
    · have := sortedE hok j i h hi hj; omega
  · exact fun h => ⟨x, List.mem_filter.2 ⟨hx, h⟩, by simp⟩
theorem valid_closed {e : Review} (h : validE e = true) : e.closed < 0 ↔ e.closed = -1 := by
  by_cases hc : e.closed = -1
  · omega
  · unfold validE at h
    rw [if_neg hc] at h
    simp [wi] at h
    omega
end Go.Proofs.Ytbjfmedpaohpnaa
