/- Plain facts about reviews. -/
import Derived.Test.YtbjfmedpaohpnaaS44H
namespace Go.Proofs.Ytbjfmedpaohpnaa
open Go.Pv
set_option maxRecDepth 100000
set_option maxHeartbeats 4000000
theorem ins_filter {l : List Review} (hok : ok l) (x : Review) : ins l (pos l x.no) x = (l.filter fun e => decide (e.no < x.no)) ++ x :: (l.filter fun e => !decide (e.no < x.no)) := by
  have key : ∀ (l : List Review), l.Pairwise (fun a b => a.no < b.no) → l.take (pos l x.no) = l.filter (fun e => decide (e.no < x.no)) ∧ l.drop (pos l x.no) = l.filter fun e => !decide (e.no < x.no) := by
    intro l
    induction l with
    | nil => intro _; exact ⟨rfl, rfl⟩
    | cons y l ih =>
      intro hp
      obtain ⟨hy, hp⟩ := List.pairwise_cons.1 hp
      have ih := ih hp
      by_cases hyx : y.no < x.no
      · have e : pos (y :: l) x.no = pos l x.no + 1 := by simp [pos, List.findIdx_cons, show ¬ x.no ≤ y.no by omega]
        rw [e]
        simp [hyx, ih]
      · have e : pos (y :: l) x.no = 0 := by simp [pos, List.findIdx_cons, show x.no ≤ y.no by omega]
        rw [e]
        have h2 : ∀ z ∈ l, ¬ z.no < x.no := fun z hz => by have := hy z hz; omega
        constructor
        · simp only [List.take_zero]
          symm
          rw [List.filter_eq_nil_iff]
          intro z hz
          rcases List.mem_cons.1 hz with rfl | hz
          · simpa using hyx
          · simpa using h2 z hz
        · simp only [List.drop_zero]
          symm
          rw [List.filter_eq_self]
          intro z hz
          rcases List.mem_cons.1 hz with rfl | hz
          · simpa using hyx
          · simpa using h2 z hz
  obtain ⟨h1, h2⟩ := key l hok.2
  rw [ins, h1, h2]
theorem has_false {l : List Review} {n : Int} : has l n = false ↔ ∀ e ∈ l, e.no ≠ n := by
  simp [has]
theorem mem_ins {l : List Review} {i : Nat} {a e : Review} : e ∈ ins l i a ↔ e = a ∨ e ∈ l := by
  have h : e ∈ l ↔ e ∈ l.take i ∨ e ∈ l.drop i := by rw [← List.mem_append, List.take_append_drop]
  rw [h]
  simp only [ins, List.mem_append, List.mem_cons]
  constructor
  · rintro (h | h | h)
    · exact .inr (.inl h)
    · exact .inl h
    · exact .inr (.inr h)
  · rintro (h | h | h)
    · exact .inr (.inl h)
    · exact .inl h
    · exact .inr (.inr h)
theorem ok_ins {l : List Review} {a : Review} (hok : ok l) (hr : validE a = true) (hh : has l a.no = false) : ok (ins l (pos l a.no) a) := by
  refine ⟨fun e he => ?_, ?_⟩
  · rcases mem_ins.1 he with rfl | he
    · exact hr
    · exact hok.1 e he
  · rw [ins_filter hok, List.pairwise_append, List.pairwise_cons]
    refine ⟨hok.2.sublist List.filter_sublist, ⟨fun z hz => ?_, hok.2.sublist List.filter_sublist⟩, fun x hx y hy => ?_⟩
    · obtain ⟨h1, h2⟩ := List.mem_filter.1 hz
      have h3 := has_false.1 hh z h1
      simp at h2
      omega
    · have h2 := (List.mem_filter.1 hx).2
      simp at h2
      rcases List.mem_cons.1 hy with rfl | hy
      · exact h2
      · have h4 := (List.mem_filter.1 hy).2
        simp at h4
        omega
theorem ok_ext : ∀ {l m : List Review}, ok l → ok m → (∀ e, e ∈ l ↔ e ∈ m) → l = m
  | [], [], _, _, _ => rfl
  | [], y :: m, _, _, h => by have := (h y).2 (by simp); simp at this
  | x :: l, [], _, _, h => by have := (h x).1 (by simp); simp at this
  | x :: l, y :: m, hl, hm, h => by
    obtain ⟨hx, hl2⟩ := List.pairwise_cons.1 hl.2
    obtain ⟨hy, hm2⟩ := List.pairwise_cons.1 hm.2
    have e : x = y := by
      rcases List.mem_cons.1 ((h x).1 (by simp)) with e | e
      · exact e
      · rcases List.mem_cons.1 ((h y).2 (by simp)) with e' | e'
        · exact e'.symm
        · have h1 := hy x e
          have h2 := hx y e'
          omega
    subst e
    have := ok_ext (l := l) (m := m) ⟨fun e he => hl.1 e (by simp [he]), hl2⟩ ⟨fun e he => hm.1 e (by simp [he]), hm2⟩ fun e => by
      constructor
      · intro he
        rcases List.mem_cons.1 ((h e).1 (by simp [he])) with e1 | e1
        · subst e1; have := hx e he; omega
        · exact e1
      · intro he
        rcases List.mem_cons.1 ((h e).2 (by simp [he])) with e1 | e1
        · subst e1; have := hy e he; omega
        · exact e1
    rw [this]

theorem openN_zero {l : List Review} {no f t : Int} : openN l no f t = 0 ↔ checkE l = 0 ∧ validE (opened no f t) = true ∧ has l no = false ∧ l.length ≠ 1024 := by
  unfold openN
  split
  · simp_all
  · split
    · simp_all
    · split
      · simp_all
      · split <;> simp_all
theorem openL_ok {l : List Review} {no f t : Int} (hn : openN l no f t = 0) : openL l no f t = ins l (pos l no) (opened no f t) ∧ ok (openL l no f t) := by
  have e : openL l no f t = ins l (pos l no) (opened no f t) := by simp [openL, hn]
  obtain ⟨h1, h2, h3, -⟩ := openN_zero.1 hn
  exact ⟨e, by rw [e]; exact ok_ins (checkE_zero.1 h1).2 h2 h3⟩
theorem mem_openL {l : List Review} {no f t : Int} {e : Review} (hn : openN l no f t = 0) : e ∈ openL l no f t ↔ e = opened no f t ∨ e ∈ l := by rw [(openL_ok hn).1]; exact mem_ins
theorem openL_length {l : List Review} {no f t : Int} (hn : openN l no f t = 0) : (openL l no f t).length = l.length + 1 := by
  rw [(openL_ok hn).1, ins_len _ _ _ (pos_le _ _)]
theorem openL_check {l : List Review} {no f t : Int} (hn : openN l no f t = 0) : checkE (openL l no f t) = 0 := by
  have h := openN_zero.1 hn
  have hl := (checkE_zero.1 h.1).1
  exact checkE_zero.2 ⟨by rw [openL_length hn]; omega, (openL_ok hn).2⟩
/-- An element is found by its number. -/
theorem idx_mem {l : List Review} (hok : ok l) {x : Review} (hx : x ∈ l) : ∃ j : Nat, idx l x.no = j ∧ ∃ h : j < l.length, l[j] = x := by
  have hh : has l x.no = true := by
    unfold has
    rw [List.any_eq_true]
    exact ⟨x, hx, by simp⟩
  obtain ⟨hp, hn⟩ := (has_iff hok x.no).1 hh
  refine ⟨pos l x.no, idx_pos hok hh, hp, ?_⟩
  obtain ⟨k, hk, rfl⟩ := List.mem_iff_getElem.1 hx
  generalize pos l l[k].no = p at *
  rcases Nat.lt_trichotomy p k with h | h | h
  · have := sortedE hok _ _ h hk hp; omega
  · subst h; rfl
  · have := sortedE hok _ _ h hp hk; omega
/-- What a closing comes to. -/
theorem closeN_zero {l : List Review} {no t v : Int} (hn : closeN l no t v = 0) : ∃ hp : pos l no < l.length, checkE l = 0 ∧ l[pos l no].no = no ∧ l[pos l no].closed = -1 ∧ 0 ≤ t ∧ validE (shut l[pos l no] t v) = true ∧
    closeL l no t v = l.set (pos l no) (shut l[pos l no] t v) := by
  have hn0 := hn
  unfold closeN at hn
  split at hn
  · rename_i h; exact absurd hn h
  · rename_i hc
    split at hn
    · rename_i e he
      obtain ⟨hp, rfl⟩ := List.getElem?_eq_some_iff.1 he
      split at hn
      · rename_i h
        refine ⟨hp, by simpa using hc, h.1, h.2.1, h.2.2.1, h.2.2.2, ?_⟩
        simp [closeL, hn0, he]
      · omega
    · omega
theorem closeL_ok {l : List Review} {no t v : Int} (hn : closeN l no t v = 0) : ok (closeL l no t v) := by
  obtain ⟨hp, hc, h1, h2, h3, h4, h5⟩ := closeN_zero hn
  obtain ⟨hl, hok⟩ := checkE_zero.1 hc
  rw [h5]
  refine ⟨fun e he => ?_, ?_⟩
  · rcases List.mem_or_eq_of_mem_set he with he | rfl
    · exact hok.1 e he
    · exact h4
  · rw [List.pairwise_iff_getElem]
    intro i j hi hj hij
    have hno : ∀ k (hk : k < (l.set (pos l no) (shut l[pos l no] t v)).length), (l.set (pos l no) (shut l[pos l no] t v))[k].no = (l[k]'(by simpa using hk)).no := by
      intro k hk
      rw [List.getElem_set]
      split
      · rename_i e; subst e; rfl
      · rfl
    rw [hno, hno]
    exact sortedE hok i j hij (by simpa using hj) (by simpa using hi)
theorem closeL_length {l : List Review} {no t v : Int} (hn : closeN l no t v = 0) : (closeL l no t v).length = l.length := by
  obtain ⟨hp, hc, h1, h2, h3, h4, h5⟩ := closeN_zero hn
  rw [h5]; simp
theorem closeL_check {l : List Review} {no t v : Int} (hn : closeN l no t v = 0) : checkE (closeL l no t v) = 0 := by
  obtain ⟨hp, hc, -⟩ := closeN_zero hn
  exact checkE_zero.2 ⟨by rw [closeL_length hn]; exact (checkE_zero.1 hc).1, closeL_ok hn⟩
theorem closeL_mem {l : List Review} {no t v : Int} (hn : closeN l no t v = 0) {x : Review} (hx : x ∈ l) (hne : x.no ≠ no) : x ∈ closeL l no t v := by
  obtain ⟨hp, hc, h1, h2, h3, h4, h5⟩ := closeN_zero hn
  rw [h5]
  obtain ⟨k, hk, rfl⟩ := List.mem_iff_getElem.1 hx
  have : pos l no ≠ k := by rintro e; subst e; exact hne h1
  refine List.mem_iff_getElem.2 ⟨k, by simpa using hk, ?_⟩
  rw [List.getElem_set_ne this]
theorem closeL_own {l : List Review} {no t v : Int} (hn : closeN l no t v = 0) : ∃ y ∈ closeL l no t v, y.no = no := by
  obtain ⟨hp, hc, h1, h2, h3, h4, h5⟩ := closeN_zero hn
  rw [h5]
  exact ⟨_, List.mem_iff_getElem.2 ⟨pos l no, by simpa using hp, List.getElem_set_self _⟩, h1⟩
theorem standN_zero {l : List Review} {t : Int} : standN l t = 0 ↔ checkE l = 0 ∧ wi t 2097152 = true := by
  unfold standN
  split
  · simp_all
  · split <;> simp_all
theorem shut_valid {e : Review} {t v : Int} (ht : t ≠ -1) (h : validE (shut e t v) = true) : e.opened ≤ t ∧ wi t 2097152 = true := by
  have : validE (shut e t v) = (wi e.no 1048577 && wi e.finding 1048577 && wi e.opened 2097152 && if t = -1 then decide (v = 0) else decide (e.opened ≤ t) && wi t 2097152 && (decide (v = 1) || decide (v = 2))) := rfl
  rw [this, if_neg ht] at h
  simp only [Bool.and_eq_true, decide_eq_true_eq] at h
  exact h.2.1
/-- Before it was closed the same reviews stood. -/
theorem closeL_before {l : List Review} {no t v before : Int} (hn : closeN l no t v = 0) (h0 : 0 ≤ before) (hb : before < t) : (standL (closeL l no t v) before).map (·.no) = (standL l before).map (·.no) ∧ standN (closeL l no t v) before = 0 ∧ standN l before = 0 := by
  obtain ⟨hp, hc, h1, h2, h3, h4, h5⟩ := closeN_zero hn
  have hbw : wi before 2097152 = true := by
    have := (shut_valid (by omega) h4).2
    simp [wi] at this ⊢; omega
  have hN := standN_zero.2 ⟨closeL_check hn, hbw⟩
  have hN2 := standN_zero.2 ⟨hc, hbw⟩
  refine ⟨?_, hN, hN2⟩
  have e1 : standL (closeL l no t v) before = (closeL l no t v).filter (standsE before) := by simp [standL, hN]
  have e2 : standL l before = l.filter (standsE before) := by simp [standL, hN2]
  rw [e1, e2, h5]
  generalize pos l no = p at *
  have hse : standsE before (shut l[p] t v) = standsE before l[p] := by
    have : t ≠ -1 := by omega
    have e : standsE before (shut l[p] t v) = (decide (l[p].opened ≤ before) && (decide (t = -1) || decide (before < t))) := rfl
    rw [e]
    simp [standsE, h2, this, hb]
  have key : ∀ (l : List Review) (p : Nat) (hp : p < l.length) (y : Review), standsE before y = standsE before l[p] → y.no = l[p].no → ((l.set p y).filter (standsE before)).map (·.no) = (l.filter (standsE before)).map (·.no) := by
    intro l
    induction l with
    | nil => intro p hp; simp at hp
    | cons x l ih =>
      intro p hp y hy hno
      cases p with
      | zero =>
        simp only [List.getElem_cons_zero] at hy hno
        simp only [List.set_cons_zero, List.filter_cons, hy]
        split <;> simp [hno]
      | succ p =>
        simp only [List.getElem_cons_succ] at hy hno
        simp only [List.set_cons_succ, List.filter_cons]
        have := ih p (by simpa using hp) y hy hno
        split <;> simp [this]
  exact key l p hp _ hse rfl
end Go.Proofs.Ytbjfmedpaohpnaa
