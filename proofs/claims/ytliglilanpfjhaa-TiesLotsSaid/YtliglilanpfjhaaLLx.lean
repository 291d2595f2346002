/- Comparing by one key after the other: plain facts. -/
import Derived.Test.YtliglilanpfjhaaLRt
import Derived.Test.YtliglilanpfjhaaLVf
import Derived.Test.YtliglilanpfjhaaLFr
namespace Go.Pv
/-- Which of two is first, and what decided. -/
def lexc : List Rat → List Rat → Nat → Int × Int
  | a :: l, b :: m, i => if cmpR a b = 0 then lexc l m (i + 1) else (cmpR a b, i)
  | _, _, _ => (0, -1)
theorem lexc_cons (a b : Rat) (l m : List Rat) (i : Nat) : lexc (a :: l) (b :: m) i = if cmpR a b = 0 then lexc l m (i + 1) else (cmpR a b, (i : Int)) := rfl
theorem cmpR_vals (a b : Rat) : cmpR a b = -1 ∨ cmpR a b = 0 ∨ cmpR a b = 1 := by
  unfold cmpR
  split
  · exact .inl rfl
  · split
    · exact .inr (.inr rfl)
    · exact .inr (.inl rfl)
theorem cmpR_self (a : Rat) : cmpR a a = 0 := cmpR_eq0.2 rfl
theorem lexc_vals : ∀ (l m : List Rat) (i : Nat), ((lexc l m i).1 = -1 ∨ (lexc l m i).1 = 0 ∨ (lexc l m i).1 = 1) ∧ ((lexc l m i).1 = 0 ↔ (lexc l m i).2 = -1) ∧ -1 ≤ (lexc l m i).2 ∧ (lexc l m i).2 < i + l.length ∧ ((lexc l m i).2 = -1 ∨ (i : Int) ≤ (lexc l m i).2)
  | a :: l, b :: m, i => by
    obtain ⟨h1, h2, h3, h4, h5⟩ := lexc_vals l m (i + 1)
    have := cmpR_vals a b
    rw [lexc]
    split
    · refine ⟨h1, h2, h3, ?_, ?_⟩
      · simp only [List.length_cons]; omega
      · omega
    · simp only [List.length_cons]
      refine ⟨by omega, ⟨fun h => by omega, fun h => by omega⟩, by omega, by omega, by omega⟩
  | [], [], i => by simp [lexc]; omega
  | [], _ :: _, i => by simp [lexc]; omega
  | _ :: _, [], i => by simp [lexc]; omega
theorem lexc_self : ∀ (l : List Rat) (i : Nat), lexc l l i = (0, -1)
  | [], _ => rfl
  | a :: l, i => by rw [lexc, if_pos (cmpR_self a), lexc_self l]
theorem lexc_swap : ∀ (l m : List Rat) (i : Nat), lexc m l i = (-(lexc l m i).1, (lexc l m i).2)
  | a :: l, b :: m, i => by
    rw [lexc, lexc]
    have e := cmpR_neg a b
    by_cases h : cmpR a b = 0
    · rw [if_pos h, if_pos (by omega), lexc_swap l m]
    · rw [if_neg h, if_neg (by omega), e]
  | [], [], _ => rfl
  | [], _ :: _, _ => rfl
  | _ :: _, [], _ => rfl
theorem rat_lt_trans {a b c : Rat} (h1 : a < b) (h2 : b < c) : a < c := Rat.not_le.1 fun h => Rat.not_le.2 h1 (Rat.le_trans (Rat.le_of_lt h2) h)
theorem cmpR_trans0 {a b : Rat} (h : cmpR a b = 0) (c : Rat) : cmpR a c = cmpR b c := by rw [cmpR_eq0.1 h]
/-- Where none of two is first, both stand to a third one in the same way. -/
theorem lexc_same : ∀ {l m : List Rat} {i : Nat} (_ : l.length = m.length) (_ : (lexc l m i).1 = 0) (n : List Rat), lexc l n i = lexc m n i
  | a :: l, b :: m, i, hl, h, n => by
    have hc : cmpR a b = 0 := by
      by_cases hc : cmpR a b = 0
      · exact hc
      · rw [lexc, if_neg hc] at h; exact absurd h hc
    rw [lexc, if_pos hc] at h
    cases n with
    | nil => rfl
    | cons c n =>
      rw [lexc, lexc, cmpR_trans0 hc c, lexc_same (by simpa using hl) h n]
  | [], [], _, _, _, _ => rfl
  | [], _ :: _, _, hl, _, _ => by simp at hl
  | _ :: _, [], _, hl, _, _ => by simp at hl
/-- What is before what is before a third one is before that one. -/
theorem lexc_trans : ∀ {l m n : List Rat} {i : Nat} (_ : l.length = m.length) (_ : m.length = n.length) (_ : (lexc l m i).1 ≠ 0) (_ : (lexc m n i).1 = (lexc l m i).1 ∨ (lexc m n i).1 = 0), (lexc l n i).1 = (lexc l m i).1
  | a :: l, b :: m, c :: n, i, h1, h2, h3, h4 => by
    have v1 := cmpR_vals a b
    have v2 := cmpR_vals b c
    rw [lexc_cons a b] at h3 h4 ⊢
    rw [lexc_cons b c] at h4
    rw [lexc_cons a c]
    by_cases hab : cmpR a b = 0
    · have e := cmpR_trans0 hab c
      rw [if_pos hab] at h3 h4 ⊢
      rw [e]
      by_cases hbc : cmpR b c = 0
      · rw [if_pos hbc] at h4 ⊢
        exact lexc_trans (by simpa using h1) (by simpa using h2) h3 h4
      · rw [if_neg hbc] at h4 ⊢
        rcases h4 with h4 | h4
        · exact h4
        · exact absurd h4 hbc
    · rw [if_neg hab] at h3 h4 ⊢
      by_cases hbc : cmpR b c = 0
      · have e : cmpR a c = cmpR a b := by rw [cmpR_eq0.1 hbc]
        rw [e, if_neg hab]
      · rw [if_neg hbc] at h4
        have h5 : cmpR b c = cmpR a b := by
          rcases h4 with h4 | h4
          · exact h4
          · exact absurd h4 hbc
        have h6 : cmpR a c = cmpR a b := by
          rcases v1 with v | v | v
          · have l1 := cmpR_lt.1 (show cmpR a b < 0 by omega)
            have l2 := cmpR_lt.1 (show cmpR b c < 0 by omega)
            have := cmpR_lt.2 (rat_lt_trans l1 l2)
            have := cmpR_vals a c
            omega
          · exact absurd v hab
          · have n1 := cmpR_neg a b
            have n2 := cmpR_neg b c
            have n3 := cmpR_neg a c
            have l1 := cmpR_lt.1 (show cmpR b a < 0 by omega)
            have l2 := cmpR_lt.1 (show cmpR c b < 0 by omega)
            have := cmpR_lt.2 (rat_lt_trans l2 l1)
            have := cmpR_vals a c
            omega
        rw [h6, if_neg hab]
  | [], [], [], _, _, _, h3, _ => by simp [lexc] at h3
  | [], _ :: _, _, _, h1, _, _, _ => by simp at h1
  | _ :: _, [], _, _, h1, _, _, _ => by simp at h1
  | _ :: _, _ :: _, [], _, _, h2, _, _ => by simp at h2
  | [], [], _ :: _, _, _, h2, _, _ => by simp at h2
/-- Further keys decide only where nothing decided. -/
theorem lexc_append : ∀ {l m : List Rat} (_ : l.length = m.length) (i : Nat) (l2 m2 : List Rat), lexc (l ++ l2) (m ++ m2) i = if (lexc l m i).1 = 0 then lexc l2 m2 (i + l.length) else lexc l m i
  | a :: l, b :: m, hl, i, l2, m2 => by
    rw [List.cons_append, List.cons_append, lexc, lexc]
    by_cases h : cmpR a b = 0
    · rw [if_pos h, if_pos h, lexc_append (by simpa using hl) (i + 1)]
      have e : i + 1 + l.length = i + (a :: l).length := by simp only [List.length_cons]; omega
      rw [e]
    · rw [if_neg h, if_neg h, if_neg h]
  | [], [], _, i, l2, m2 => by simp [lexc]
  | [], _ :: _, hl, _, _, _ => by simp at hl
  | _ :: _, [], hl, _, _, _ => by simp at hl
/-- The keys up to the one that decided decide. -/
theorem lexc_take : ∀ {l m : List Rat} {i : Nat} {c k : Int} (_ : lexc l m i = (c, k)) (_ : c ≠ 0), lexc (l.take ((k - i).toNat + 1)) (m.take ((k - i).toNat + 1)) i = (c, k)
  | a :: l, b :: m, i, c, k, h, hc => by
    rw [lexc] at h
    rw [List.take_succ_cons, List.take_succ_cons, lexc]
    by_cases h0 : cmpR a b = 0
    · rw [if_pos h0] at h ⊢
      have h1 := lexc_vals l m (i + 1)
      rw [h] at h1
      obtain ⟨-, h2, -, -, h5⟩ := h1
      simp only at h2 h5
      have h6 : ((i + 1 : Nat) : Int) ≤ k := by
        rcases h5 with h5 | h5
        · exact absurd (h2.2 h5) hc
        · exact h5
      have := lexc_take h hc
      rw [show (k - (i : Int)).toNat = (k - ((i + 1 : Nat) : Int)).toNat + 1 by omega]
      exact this
    · rw [if_neg h0] at h ⊢
      exact h
  | [], [], _, _, _, h, hc => by simp [lexc] at h; exact absurd h.1.symm hc
  | [], _ :: _, _, _, _, h, hc => by simp [lexc] at h; exact absurd h.1.symm hc
  | _ :: _, [], _, _, _, h, hc => by simp [lexc] at h; exact absurd h.1.symm hc
theorem cmpR_mono {a a' b : Rat} (h : a' ≤ a) : cmpR a' b ≤ cmpR a b := by
  have h1 := cmpR_vals a b
  have h2 := cmpR_vals a' b
  rcases h1 with h1 | h1 | h1
  · have := cmpR_lt.1 (show cmpR a b < 0 by omega)
    have := cmpR_lt.2 (Rat.not_le.1 fun h' => Rat.not_le.2 this (Rat.le_trans h' h))
    omega
  · have := cmpR_le.1 (show cmpR a b ≤ 0 by omega)
    have := cmpR_le.2 (Rat.le_trans h this)
    omega
  · omega
/-- What becomes better is before all before which it was. -/
theorem lexc_mono : ∀ {l' l : List Rat} (_ : l'.length = l.length) (_ : ∀ j (h1 : j < l'.length) (h2 : j < l.length), l'[j] ≤ l[j]) (m : List Rat) (i : Nat), (lexc l' m i).1 ≤ (lexc l m i).1
  | a' :: l', a :: l, hl, h, [], _ => by simp [lexc]
  | a' :: l', a :: l, hl, h, b :: m, i => by
    have h0 := h 0 (by simp) (by simp)
    simp only [List.getElem_cons_zero] at h0
    have hm := cmpR_mono (b := b) h0
    have ih := lexc_mono (l' := l') (l := l) (by simpa using hl) (fun j h1 h2 => by
      have := h (j + 1) (by simpa using h1) (by simpa using h2)
      simpa using this) m (i + 1)
    have v1 := cmpR_vals a b
    have v2 := cmpR_vals a' b
    have w1 := (lexc_vals l m (i + 1)).1
    have w2 := (lexc_vals l' m (i + 1)).1
    rw [lexc_cons, lexc_cons]
    by_cases k1 : cmpR a' b = 0
    · by_cases k2 : cmpR a b = 0
      · rw [if_pos k1, if_pos k2]; exact ih
      · rw [if_pos k1, if_neg k2]; show (lexc l' m (i + 1)).1 ≤ cmpR a b; omega
    · by_cases k2 : cmpR a b = 0
      · rw [if_neg k1, if_pos k2]; show cmpR a' b ≤ (lexc l m (i + 1)).1; omega
      · rw [if_neg k1, if_neg k2]; exact hm
  | [], [], _, _, m, _ => by cases m <;> simp [lexc]
  | [], _ :: _, hl, _, _, _ => by simp at hl
  | _ :: _, [], hl, _, _, _ => by simp at hl
/-- How many are before one. -/
def rankL (n : Nat) (v : Nat → List Rat) (i : Nat) : Nat := (List.range n).countP fun j => decide ((lexc (v j) (v i) 0).1 < 0)
theorem rank_lt {n : Nat} {v : Nat → List Rat} {k : Nat} (hv : ∀ j, (v j).length = k) {a b : Nat} (ha : a < n) (h : (lexc (v a) (v b) 0).1 < 0) : rankL n v a < rankL n v b := by
  unfold rankL
  have hab := (lexc_vals (v a) (v b) 0).1
  have key : ∀ j, (lexc (v j) (v a) 0).1 < 0 → (lexc (v j) (v b) 0).1 < 0 := fun j hj => by
    have hja := (lexc_vals (v j) (v a) 0).1
    have := lexc_trans (l := v j) (m := v a) (n := v b) (i := 0) (by rw [hv, hv]) (by rw [hv, hv]) (by omega) (by omega)
    omega
  have h1 : (List.range n).countP (fun j => decide ((lexc (v j) (v a) 0).1 < 0)) + (List.range n).countP (fun j => decide ((lexc (v j) (v b) 0).1 < 0) && !decide ((lexc (v j) (v a) 0).1 < 0)) = (List.range n).countP (fun j => decide ((lexc (v j) (v b) 0).1 < 0)) := by
    generalize List.range n = L
    induction L with
    | nil => rfl
    | cons j L ih =>
      simp only [List.countP_cons]
      by_cases h1 : (lexc (v j) (v a) 0).1 < 0
      · have h2 := key j h1
        simp [h1, h2]; omega
      · by_cases h2 : (lexc (v j) (v b) 0).1 < 0
        · simp [h1, h2]; omega
        · simp [h1, h2]; omega
  have h2 : 0 < (List.range n).countP (fun j => decide ((lexc (v j) (v b) 0).1 < 0) && !decide ((lexc (v j) (v a) 0).1 < 0)) := by
    rw [List.countP_pos_iff]
    refine ⟨a, by simpa using ha, ?_⟩
    rw [lexc_self (v a)]
    simp [h]
  omega
theorem rank_eq {n : Nat} {v : Nat → List Rat} {k : Nat} (hv : ∀ j, (v j).length = k) {a b : Nat} (h : (lexc (v a) (v b) 0).1 = 0) : rankL n v a = rankL n v b := by
  unfold rankL
  refine List.countP_congr fun j _ => ?_
  have e : lexc (v a) (v j) 0 = lexc (v b) (v j) 0 := lexc_same (by rw [hv, hv]) h (v j)
  have e1 := lexc_swap (v a) (v j) 0
  have e2 := lexc_swap (v b) (v j) 0
  rw [e1, e2, e]
/-- A comparison by keys is one by ranks. -/
theorem lexc_rank {n : Nat} {v : Nat → List Rat} {k : Nat} (hv : ∀ j, (v j).length = k) {a b : Nat} (ha : a < n) (hb : b < n) : (lexc (v a) (v b) 0).1 = cmpZ (rankL n v a) (rankL n v b) := by
  have hab := (lexc_vals (v a) (v b) 0).1
  unfold cmpZ
  rcases hab with h | h | h
  · have := rank_lt hv ha (show (lexc (v a) (v b) 0).1 < 0 by omega)
    rw [if_pos (by omega), h]
  · have := rank_eq (n := n) hv h
    rw [if_neg (by omega), if_neg (by omega), h]
  · have e := lexc_swap (v a) (v b) 0
    have := rank_lt hv hb (show (lexc (v b) (v a) 0).1 < 0 by rw [e]; simp only; omega)
    rw [if_neg (by omega), if_pos (by omega), h]
end Go.Pv
/- A block is frozen, also in the cells of other blocks. -/
namespace Go.Pv
/-- An object whose cells see the block frozen. -/
inductive FrzO (b : Nat) (o : PObj) : PObj → PObj → Prop
  | refl (x : PObj) : FrzO b o x x
  | arr (T : TypeId) {cs ds : List PV} (h : Frzs b o cs ds) : FrzO b o (.arr T cs) (.arr T ds)
inductive FrzSt (b : Nat) (o : PObj) : Store → Store → Prop
  | nil : FrzSt b o [] []
  | cons {c : Nat} {x y : PObj} {st st' : Store} (h : FrzO b o x y) (t : FrzSt b o st st') : FrzSt b o ((c, x) :: st) ((c, y) :: st')
theorem FrzSt.refl {b : Nat} {o : PObj} : ∀ st : Store, FrzSt b o st st
  | [] => .nil
  | (_, x) :: st => .cons (.refl x) (FrzSt.refl st)
theorem FrzO.orep {I : Imm} {b : Nat} {o x y : PObj} {r : Obj} (hI : Frozen I b o) (h : FrzO b o x y) (hr : orep I x r) : orep I y r := by
  cases h with
  | refl => exact hr
  | arr T h =>
    obtain ⟨vs, h1, h2⟩ := hr
    exact ⟨vs, h1, Frzs.vcells hI h h2⟩
theorem FrzSt.get {b : Nat} {o : PObj} {st st' : Store} (h : FrzSt b o st st') : ∀ {c : Nat} {y : PObj}, sget st' c = some y → ∃ x, sget st c = some x ∧ FrzO b o x y := by
  induction h with
  | nil => intro c y hc; cases hc
  | cons h _ ih =>
    intro c y hc
    simp only [sget] at hc ⊢
    split at hc
    · rename_i e
      cases hc
      exact ⟨_, by rw [if_pos e], h⟩
    · rename_i e
      rw [if_neg e]
      exact ih hc
theorem SRep.frzs {I : Imm} {b : Nat} {o : PObj} {st st' : Store} {w : World} (hI : Frozen I b o) (h : SRep I st w) (hs : FrzSt b o st st') : SRep I st' w := by
  refine ⟨h.imm, fun c y hc => ?_, ?_⟩
  · obtain ⟨x, h1, h2⟩ := hs.get hc
    obtain ⟨h3, r, h4, h5⟩ := h.objs c x h1
    exact ⟨h3, r, h4, h2.orep hI h5⟩
  · refine sfresh_of_get fun c y hc => ?_
    obtain ⟨x, h1, -⟩ := hs.get hc
    exact h.obj_lt h1
theorem View.frzS {e e' : Env} {st st' st1 : Store} {b : Nat} {o : PObj} (hb : snew st b) (hs : StLe ((b, o) :: st) st1) (ht : FrzSt b o st st') (he : ∀ q ∈ e', Frz b o (eget e q.1) q.2) : View ⟨e, st1⟩ ⟨e', st'⟩ := fun I tm w h1 h2 => by
  obtain ⟨I', h3, h4, h5⟩ := (h2.le hs).freeze hb
  refine ⟨I', h3, fun t => ?_, h4.frzs h5 ht⟩
  rcases eget_in (e := e') (t := t) with h | ⟨q, hq, rfl, h⟩
  · simp only [h, vrep]
  · simp only [h]
    exact (he q hq).vrep h5 (vrep_mono h3 _ _ (h1 q.1))
end Go.Pv
/- 'append' whose result is never written again. -/
namespace Go.Pv
theorem xappend_imm {α : Type} {row : List α → List PV} {k : Nat} (hrl : ∀ l, (row l).length = l.length * k) (hra : ∀ l m, row (l ++ m) = row l ++ row m) {T : TypeId} {bytes : Nat} {st : Store} {K : PV → Store → Prop}
    (o : Option (Acc α)) (ho : accOk row k st o) (xs : List α) {new : List PV} {m : Nat} (hnew : row xs = new) (hm : xs.length = m) (hsz : ((accL o).length + m) * bytes ≤ 140737488355328)
    (h0 : accL o ++ xs = [] → K (.list true [] 0) st) (h : K (.list false (row (accL o ++ xs)) (accL o ++ xs).length) st) : xappend T bytes k (accT o) new m (accS T st o) K := by
  subst hnew; subst hm
  cases o with
  | none =>
    simp only [accL_none, List.nil_append, accT_none, accS_none] at h h0 ⊢
    rw [xappend_list]
    refine ⟨fun e => h0 (List.length_eq_zero_iff.1 e), fun _ => ⟨rfl, by simp, ?_⟩⟩
    refine Grow.imm (by simpa using hsz) (by simp [hrl]) ?_
    simpa using h
  | some a =>
    obtain ⟨ha, hb⟩ := ho
    simp only [accL_some, accT_some, accS_some] at h ⊢
    refine xappend_own (by simp [sget]) ha.len ha.le ha.cap ?_
    have e : sdel a.b ((a.b, .arr T a.R) :: st) = st := by simp [sdel_of_new hb]
    rw [e]
    refine Grow.imm (by simpa using hsz) ?_ ?_
    · rw [ha.row, List.length_append, hrl, hrl, Nat.add_mul]
    · rw [ha.row, ← hra]
      rw [List.length_append] at h
      exact h
theorem xappend_immT {α : Type} {row : List α → List PV} {k : Nat} (hrl : ∀ l, (row l).length = l.length * k) (hra : ∀ l m, row (l ++ m) = row l ++ row m) {T : TypeId} {bytes : Nat} {st : Store} {K : PV → Store → Prop}
    (o : Option (Acc α)) (ho : accOk row k st o) (xs : List α) {new : List PV} {m : Nat} (hnew : row xs = new) (hm : xs.length = m) (hsz : ((accL o).length + m) * bytes ≤ 140737488355328)
    (h : ∀ t, K (.list t (row (accL o ++ xs)) (accL o ++ xs).length) st) : xappend T bytes k (accT o) new m (accS T st o) K :=
  xappend_imm hrl hra o ho xs hnew hm hsz (fun e => by
    have h1 := h true
    have e1 : row (accL o ++ xs) = [] := List.length_eq_zero_iff.1 (by rw [hrl, e]; simp)
    rw [e1, e] at h1
    exact h1) (h false)
end Go.Pv
