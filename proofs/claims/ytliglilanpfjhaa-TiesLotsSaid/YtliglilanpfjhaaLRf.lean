/- Ranges over functions that may be left early. -/
import Derived.Test.YtliglilanpfjhaaLRd
import Derived.Test.YtliglilanpfjhaaLNc
namespace Go.Pv
/-- The function g, over these values, gives n rounds, with these values each, until it is told to stop. -/
def GivesN (P : Program) (g : FuncId) (fs cs : List PV) (n : Nat) (x : Nat → List PV) : Prop :=
  ∀ (σ : Type) (S : σ → Store) (inv : Nat → σ → Prop) (fin : σ → Prop) (l : Nat),
    (∀ i s, inv i s → i < n → PRound P l (x i) (S s) fun e st' => ∃ s', st' = S s' ∧ ((e = .ret (.bool true) ∧ inv (i + 1) s') ∨ (e = .ret (.bool false) ∧ fin s'))) →
    ∀ s, inv 0 s → PCalls P g (fs ++ [.func (.yield l) [] []] ++ cs) (S s) fun e st' => e = .ret (.tuple []) ∧ ∃ s', st' = S s' ∧ (inv n s' ∨ fin s')
/-- A loop's body that is left by a return, or not. -/
def lsR {α : Type} : Option α → LoopState
  | none => .ready
  | some _ => .done
def lpR {α : Type} : Option α → Option Code
  | none => none
  | some _ => some .ret
@[simp] theorem lsR_none {α : Type} : lsR (none : Option α) = .ready := rfl
@[simp] theorem lsR_some {α : Type} (a : α) : lsR (some a) = .done := rfl
@[simp] theorem lpR_none {α : Type} : lpR (none : Option α) = none := rfl
@[simp] theorem lpR_some {α : Type} (a : α) : lpR (some a) = some .ret := rfl
end Go.Pv
/- Digits in rows: what walks over numbers need. -/
namespace Go.Pv
@[simp high] theorem or30 {x u : Int} {K : PV → Prop} (hx : 0 ≤ x) (hx2 : x ≤ 8589934591) (hu : 0 ≤ u) (hu2 : u < 1073741824) : xbin .or (.val (.int .i64 (x * 1073741824))) (.val (.int .i64 u)) K = K (.val (.int .i64 (x * 1073741824 + u))) := by
  rw [bin_or]
  simp only [true_and]
  exact congrArg (fun n => K (.val (.int .i64 n))) (or_low hx hu hu2 (by omega))
@[simp] theorem wrapL0 : IntKind.i64.wrap 0 = 0 := wrap_in (by decide) (by decide)
@[simp] theorem wrapL1 : IntKind.i64.wrap 1 = 1 := wrap_in (by decide) (by decide)
@[simp] theorem wrapL2 : IntKind.i64.wrap 2 = 2 := wrap_in (by decide) (by decide)
theorem shr30n (s : Int) : s.fdiv (2 ^ min 30 IntKind.i64.bits) = s / 1073741824 := shr30 s
theorem intRow_set (l : List Int) (i : Nat) (d : Int) : (intRow l).set i (.int d) = intRow (l.set i d) := by simp [intRow, List.map_set]
theorem carD_succ (f : Nat → Int) (i : Nat) : carD f (i + 1) = ((carD f i).1 ++ [(f i + (carD f i).2) % BB], (f i + (carD f i).2) / BB) := rfl
theorem carD_store {f : Nat → Int} {n i : Nat} (h : i < n) : (intRow ((carD f i).1 ++ List.replicate (n - i) 0)).set i (.int ((f i + (carD f i).2) % 1073741824)) = intRow ((carD f (i + 1)).1 ++ List.replicate (n - (i + 1)) 0) := by
  rw [intRow_set, carD_succ]
  congr 1
  rw [List.set_append_right _ _ (by rw [carD_len]; omega), carD_len, Nat.sub_self]
  obtain ⟨k, hk⟩ : ∃ k, n - i = k + 1 := ⟨n - i - 1, by omega⟩
  rw [hk, List.replicate_succ, List.set_cons_zero, show n - (i + 1) = k by omega]
  simp
theorem trimD_pre (l : List Int) : l.take (trimD l).length = trimD l := by
  unfold trimD
  rw [List.length_take, Nat.min_eq_left (by omega)]
theorem trimD_le (l : List Int) : (trimD l).length ≤ l.length := by
  unfold trimD
  rw [List.length_take]; omega
theorem intRow_take (l : List Int) (n : Nat) : (intRow l).take n = intRow (l.take n) := by simp [intRow, List.map_take]
theorem intRow_drop (l : List Int) (n : Nat) : (intRow l).drop n = intRow (l.drop n) := by simp [intRow, List.map_drop]
theorem intRow_rep (n : Nat) : intRow (List.replicate n 0) = List.replicate n (.int 0) := by simp [intRow]
/-- A row of one's own is handed out, without the zeros at its end. -/
theorem RetView.trim {c : PV → PEnd} {b cap : Nat} {T : TypeId} {l : List Int} {C : List PV} {st : Store} {Q : PEnd → Store → Prop} (hn : snew st b) (hc : l.length ≤ cap) (hc2 : cap ≤ 9223372036854775807)
    (h : RetView c (intLst false (trimD l)) st Q) : RetView c (.own b 0 (trimD l).length cap) ((b, .arr T (intRow l ++ C)) :: st) Q := by
  refine .fz 1 hn ?_
  have h1 := trimD_le l
  rw [fzp_own, if_pos ⟨rfl, by omega, hc2⟩, List.drop_zero, Nat.mul_one, List.take_append_of_le_length (by simpa using h1), intRow_take, trimD_pre]
  exact h
theorem RetView.trim0 {c : PV → PEnd} {b cap : Nat} {T : TypeId} {l : List Int} {st : Store} {Q : PEnd → Store → Prop} (hn : snew st b) (hc : l.length ≤ cap) (hc2 : cap ≤ 9223372036854775807)
    (h : RetView c (intLst false (trimD l)) st Q) : RetView c (.own b 0 (trimD l).length cap) ((b, .arr T (intRow l)) :: st) Q := by
  have := RetView.trim (T := T) (C := []) hn hc hc2 h
  rwa [List.append_nil] at this
theorem PB_nat (k : Nat) : PB k = ((1073741824 ^ k : Nat) : Int) := by
  unfold PB BB
  rw [Int.natCast_pow]; rfl
theorem digs_lt (a : Nat) : (a : Int) < PB (dl a) := by
  have := digs_len_lt a
  exact this
theorem addD (a b : Nat) : trimD (carD (fun i => dAt (digs a) i + dAt (digs b) i) (max (dl a) (dl b) + 1)).1 = digs (a + b) := by
  refine carD_digs ?_ ?_
  · rw [sumD_add, sumD_full (by show dl a ≤ _; omega), sumD_full (by show dl b ≤ _; omega), dv_digs, dv_digs]
    omega
  · have h1 := digs_lt a
    have h2 := digs_lt b
    have h3 := PB_mono (show dl a ≤ max (dl a) (dl b) by omega)
    have h4 := PB_mono (show dl b ≤ max (dl a) (dl b) by omega)
    have h5 := PB_pos (max (dl a) (dl b))
    rw [PB_succ]
    generalize PB (max (dl a) (dl b)) = p at *
    unfold BB
    omega
theorem subD {a b : Nat} (h : b ≤ a) : trimD (carD (fun i => dAt (digs a) i - dAt (digs b) i) (dl a)).1 = digs (a - b) := by
  refine carD_digs ?_ ?_
  · rw [sumD_sub, sumD_full (Nat.le_refl _), sumD_full (digs_len_mono h), dv_digs, dv_digs]
    omega
  · have h1 := digs_lt a
    omega
theorem movD (a k : Nat) (hk : k < 30) : trimD (carD (fun i => dAt (digs a) i * 2 ^ k) (dl a + 1)).1 = digs (a * 2 ^ k) := by
  refine carD_digs ?_ ?_
  · rw [sumD_mul, sumD_full (by show dl a ≤ _; omega), dv_digs]
    simp
  · rw [PB_nat, Nat.pow_succ]
    have h1 := (dl_le (n := a) (k := dl a)).1 (Nat.le_refl _)
    have h2 : 2 ^ k ≤ 1073741824 := Nat.pow_le_pow_right (n := 2) (by decide) (show k ≤ 30 by omega)
    have h3 : a * 2 ^ k < 1073741824 ^ dl a * 1073741824 := Nat.mul_lt_mul_of_lt_of_le h1 h2 (by decide)
    exact_mod_cast h3
/-- What is behind a return may be seen otherwise. -/
theorem PCalls.viewed {P : Program} {g : FuncId} {ps : List PV} {st : Store} {Q : PEnd → Store → Prop} (h : PCalls P g ps st fun e s => ∃ p, e = .ret p ∧ RetView .ret p s Q) : PCalls P g ps st Q := by
  rcases h with h | h
  · refine .inl ⟨h.enters, fun I w vs h1 h2 => (h.out I w vs h1 h2).mono fun en w' hh => ?_⟩
    obtain ⟨I', st', a, b, c, pe, d, p, e1, q, st2, hs, hq⟩ := hh
    subst e1
    obtain ⟨v, rfl, hv⟩ := d
    obtain ⟨I2, i1, i2, i3⟩ := hs.out I' w' v c hv
    exact ⟨I2, st2, Imm.le_trans a i1, b, i2, .ret q, ⟨v, rfl, i3⟩, hq⟩
  · refine .inr ⟨fun I w vs h1 h2 => ?_⟩
    obtain ⟨v, w', h3, I', st', a, b, c, p, d, p', e1, q, st2, hs, hq⟩ := h.out I w vs h1 h2
    cases e1
    obtain ⟨I2, i1, i2, i3⟩ := hs.out I' w' v c d
    exact ⟨v, w', h3, I2, st2, Imm.le_trans a i1, b, i2, q, i3, hq⟩
/-- Called so, the function gives a row of the caller's own: the digits l without the zeros at their end; all of them stand in the row. -/
def Owns (P : Program) (T : TypeId) (g : FuncId) (ps : List PV) (st : Store) (l : List Int) : Prop := PCalls P g ps st fun e s => ∃ b, snew st b ∧ e = .ret (.own b 0 (trimD l).length l.length) ∧ s = (b, .arr T (intRow l)) :: st
theorem Owns.rets {P : Program} {T : TypeId} {g : FuncId} {ps : List PV} {st : Store} {l : List Int} (hl : l.length ≤ 9223372036854775807) (h : Owns P T g ps st l) : Rets P g ps st (intLst false (trimD l)) :=
  PCalls.viewed (PCalls.mono h fun e s ⟨b, hb, he, hs⟩ => ⟨_, he, by subst hs; exact .trim0 hb (Nat.le_refl _) hl (.same ⟨rfl, rfl⟩)⟩)
end Go.Pv
/- Products of digits: plain facts. -/
namespace Go.Pv
structure MulInv (A B m : List Int) (i : Nat) : Prop where
  len : m.length = A.length + B.length
  ok : dOk m
  val : dv m = dv (A.take i) * dv B
  zer : ∀ j, i + B.length ≤ j → (h : j < m.length) → m[j] = 0
structure MulRow (A B m : List Int) (o : Int) (i k : Nat) (x : Int) : Prop where
  len : m.length = A.length + B.length
  ok : dOk m
  o0 : 0 ≤ o
  oB : o < BB
  val : dv m + PB (i + k) * o = dv (A.take i) * dv B + PB i * x * dv (B.take k)
  zer : ∀ j, i + B.length ≤ j → (h : j < m.length) → m[j] = 0
theorem MulInv.start (A B : List Int) : MulInv A B (List.replicate (A.length + B.length) 0) 0 :=
  ⟨by simp, dOk_zeros _, by rw [dv_zeros, List.take_zero, dv_nil, Int.zero_mul], fun j _ h => by simp⟩
theorem MulInv.row {A B m : List Int} {i : Nat} (h : MulInv A B m i) (x : Int) : MulRow A B m 0 i 0 x :=
  ⟨h.len, h.ok, Int.le_refl 0, by decide, by rw [Int.mul_zero, Int.add_zero, List.take_zero, dv_nil, Int.mul_zero, Int.add_zero]; exact h.val, h.zer⟩
theorem mul_range {a b c d : Int} (ha : 0 ≤ a ∧ a < BB) (hb : 0 ≤ b ∧ b < BB) (hc : 0 ≤ c ∧ c < BB) (hd : 0 ≤ d ∧ d < BB) : 0 ≤ a * b ∧ a * b ≤ 1152921502459363329 ∧ 0 ≤ c + a * b + d ∧ c + a * b + d ≤ 1152921504606846975 := by
  have h0 : 0 ≤ a * b := Int.mul_nonneg ha.1 hb.1
  have h1 : a * b ≤ 1073741823 * 1073741823 := Int.mul_le_mul (by unfold BB at ha; omega) (by unfold BB at hb; omega) hb.1 (by decide)
  unfold BB at hc hd
  omega
theorem MulRow.get {A B m : List Int} {o : Int} {i k : Nat} {x : Int} (h : MulRow A B m o i k x) (hi : i < A.length) (hk : k < B.length) : i + k < m.length := by rw [h.len]; omega
theorem MulRow.step {A B m : List Int} {o : Int} {i k : Nat} {x : Int} (h : MulRow A B m o i k x) (hB : dOk B) (hx : 0 ≤ x ∧ x < BB) (hi : i < A.length) (hk : k < B.length) {s : Int} (hs : s = m[i + k]'(h.get hi hk) + x * B[k] + o) :
    MulRow A B (m.set (i + k) (s % BB)) (s / BB) i (k + 1) x := by
  have hg := h.get hi hk
  have h2 := mul_range hx (dOk_get hB hk) (dOk_get h.ok hg) ⟨h.o0, h.oB⟩
  rw [← hs] at h2
  refine ⟨by rw [List.length_set, h.len], dOk_set h.ok _ ⟨Int.emod_nonneg _ (by decide), Int.emod_lt_of_pos _ (by decide)⟩, Int.ediv_nonneg h2.2.2.1 (by decide), Int.ediv_lt_of_lt_mul (by decide) (by unfold BB; omega), ?_, ?_⟩
  · rw [dv_set hg, dv_take_succ hk, Int.mul_add, ← Int.add_assoc, ← h.val, show i + (k + 1) = i + k + 1 by omega, PB_succ, PB_add]
    have e := Int.emod_add_mul_ediv s BB
    have e1 : PB i * PB k * (s % BB - m[i + k]) + BB * (PB i * PB k) * (s / BB) = PB i * PB k * (s - m[i + k]) := by
      have : BB * (PB i * PB k) * (s / BB) = PB i * PB k * (BB * (s / BB)) := by ac_rfl
      rw [this, ← Int.mul_add]
      congr 1
      omega
    have e2 : PB i * x * (PB k * B[k]) = PB i * PB k * (x * B[k]) := by ac_rfl
    rw [e2]
    have e3 : PB i * PB k * (s - m[i + k]) = PB i * PB k * (x * B[k]) + PB i * PB k * o := by
      rw [← Int.mul_add]
      congr 1
      omega
    omega
  · intro j hj hjl
    rw [List.length_set] at hjl
    rw [List.getElem_set_ne (by omega)]
    exact h.zer j hj hjl
theorem MulRow.done {A B m : List Int} {o : Int} {i : Nat} (hi : i < A.length) (h : MulRow A B m o i B.length A[i]) : MulInv A B (m.set (i + B.length) o) (i + 1) := by
  have hg : i + B.length < m.length := by rw [h.len]; omega
  refine ⟨by rw [List.length_set, h.len], dOk_set h.ok _ ⟨h.o0, h.oB⟩, ?_, ?_⟩
  · have e := h.val
    rw [List.take_of_length_le (Nat.le_refl _)] at e
    rw [dv_set hg, h.zer _ (Nat.le_refl _) hg, Int.sub_zero, e, dv_take_succ hi, Int.add_mul]
  · intro j hj hjl
    rw [List.length_set] at hjl
    rw [List.getElem_set_ne (by omega)]
    exact h.zer j (by omega) hjl
theorem MulInv.skip {A B m : List Int} {i : Nat} (h : MulInv A B m i) (hi : i < A.length) (h0 : A[i] = 0) : MulInv A B m (i + 1) :=
  ⟨h.len, h.ok, by rw [dv_take_succ hi, h0, Int.mul_zero, Int.add_zero]; exact h.val, fun j hj => h.zer j (by omega)⟩
theorem MulInv.fin {A B m : List Int} (h : MulInv A B m A.length) {a b : Nat} (ha : dv A = a) (hb : dv B = b) : trimD m = digs (a * b) := by
  refine trimD_eq h.ok ?_
  rw [h.val, List.take_of_length_le (Nat.le_refl _), ha, hb]
  simp
theorem fz_trim {b cap : Nat} {T : TypeId} {l : List Int} (hc : l.length ≤ cap) (hc2 : cap ≤ 9223372036854775807) : fzp b (.arr T (intRow l)) 1 (.own b 0 (trimD l).length cap) = intLst false (trimD l) := by
  have h1 := trimD_le l
  rw [fzp_own, if_pos ⟨rfl, by omega, hc2⟩, List.drop_zero, Nat.mul_one, intRow_take, trimD_pre]
theorem fz_trimC {b cap : Nat} {T : TypeId} {l : List Int} {C : List PV} (hc : l.length ≤ cap) (hc2 : cap ≤ 9223372036854775807) : fzp b (.arr T (intRow l ++ C)) 1 (.own b 0 (trimD l).length cap) = intLst false (trimD l) := by
  have h1 := trimD_le l
  rw [fzp_own, if_pos ⟨rfl, by omega, hc2⟩, List.drop_zero, Nat.mul_one, List.take_append_of_le_length (by simpa using h1), intRow_take, trimD_pre]
theorem Frzs.trim {b cap : Nat} {T : TypeId} {l : List Int} {C : List PV} {x : Int} (hc : l.length ≤ cap) (hc2 : cap ≤ 9223372036854775807) : Frzs b (.arr T (intRow l ++ C)) [.own b 0 (trimD l).length cap, .int x] [intLst false (trimD l), .int x] := by
  have := fzps_spec b (.arr T (intRow l ++ C)) 1 [.own b 0 (trimD l).length cap, .int x]
  rwa [fzps_cons, fz_trimC hc hc2, fzps_cons, fzp_int, fzps_nil] at this
theorem RetView.trimL {c : PV → PEnd} {b cap : Nat} {T : TypeId} {l m : List Int} {st : Store} {Q : PEnd → Store → Prop} (hn : snew st b) (hc : l.length ≤ cap) (hc2 : cap ≤ 9223372036854775807)
    (h : RetView c (.tuple [intLst false (trimD l), intLst false m]) st Q) : RetView c (.tuple [.own b 0 (trimD l).length cap, intLst false m]) ((b, .arr T (intRow l)) :: st) Q := by
  refine .fz 1 hn ?_
  have e : fzps b (.arr T (intRow l)) 1 (intRow m) = intRow m := fzps_plain b _ 1 fun p hp => by
    obtain ⟨a, -, rfl⟩ := List.mem_map.1 hp
    rfl
  rw [fzp_tuple, fzps_cons, fz_trim hc hc2, fzps_cons, fzp_list, fzps_nil, e]
  exact h
theorem RetView.trim2 {c : PV → PEnd} {b cap : Nat} {T : TypeId} {l : List Int} {x : Int} {st : Store} {Q : PEnd → Store → Prop} (hn : snew st b) (hc : l.length ≤ cap) (hc2 : cap ≤ 9223372036854775807)
    (h : RetView c (.tuple [intLst false (trimD l), .int x]) st Q) : RetView c (.tuple [.own b 0 (trimD l).length cap, .int x]) ((b, .arr T (intRow l)) :: st) Q := by
  refine .fz 1 hn ?_
  rw [fzp_tuple, fzps_cons, fz_trim hc hc2, fzps_cons, fzp_int, fzps_nil]
  exact h
theorem PLe.tuple2 {p q p' q' : PV} (h1 : PLe p p') (h2 : PLe q q') : PLe (.tuple [p, q]) (.tuple [p', q']) := fun I v h => by
  simp only [vrep] at h ⊢
  obtain ⟨vs, h3, h4⟩ := h
  match vs, h4 with
  | [a, b], h4 =>
    simp only [vreps] at h4
    exact ⟨[a, b], h3, by simp only [vreps]; exact ⟨h1 I _ h4.1, h2 I _ h4.2.1, trivial⟩⟩
theorem Sees.le {p q : PV} {st : Store} (h : PLe p q) : Sees p st q st := ⟨fun I _ v h1 h2 => ⟨I, I.le_refl, h1, h I v h2⟩⟩
theorem RetView.le {c : PV → PEnd} {p q : PV} {st : Store} {Q : PEnd → Store → Prop} (hp : PLe p q) (h : RetView c q st Q) : RetView c p st Q := .sees (.le hp) h
theorem PLe.nil0 : PLe .nil (intLst false []) := PLe.trans PLe.nil PLe.loose
/-- Division by one digit: so much of it is done. -/
structure ShInv (A Q : List Int) (d r : Int) (j : Nat) : Prop where
  len : Q.length = A.length
  ok : dOk Q
  r0 : 0 ≤ r
  rd : r < d
  val : dv (A.drop j) = dv (Q.drop j) * d + r
theorem ShInv.start (A : List Int) {d : Int} (hd : 0 < d) : ShInv A (List.replicate A.length 0) d 0 A.length :=
  ⟨by simp, dOk_zeros _, Int.le_refl 0, hd, by rw [List.drop_of_length_le (Nat.le_refl _), List.drop_of_length_le (by simp)]; simp [dv]⟩
theorem ShInv.step {A Q : List Int} {d r : Int} {j : Nat} (hd : 0 < d) (hA : dOk A) (hj : j < A.length) (h : ShInv A Q d r (j + 1)) : ShInv A (Q.set j ((r * BB + A[j]) / d)) d ((r * BB + A[j]) % d) j := by
  have hjq : j < Q.length := by rw [h.len]; exact hj
  have a1 := dOk_get hA hj
  obtain ⟨h1, h2, h3, h4⟩ := short_step hd h.r0 h.rd a1.1 a1.2
  refine ⟨by rw [List.length_set, h.len], dOk_set h.ok _ ⟨h1, h2⟩, h3, h4, ?_⟩
  rw [dv_drop_succ hj, dv_drop_succ (l := Q.set j _) (by rw [List.length_set]; exact hjq), List.getElem_set_self, List.drop_set_of_lt (by omega), h.val]
  have e := Int.emod_add_mul_ediv (r * BB + A[j]) d
  have e1 : BB * (dv (Q.drop (j + 1)) * d + r) = BB * dv (Q.drop (j + 1)) * d + r * BB := by rw [Int.mul_add, Int.mul_assoc, Int.mul_comm BB r]
  have e2 : (r * BB + A[j]) / d * d = d * ((r * BB + A[j]) / d) := Int.mul_comm ..
  rw [e1, Int.add_mul, e2]
  omega
theorem ShInv.fin {A Q : List Int} {d r : Int} (h : ShInv A Q d r 0) {a m : Nat} (ha : dv A = a) (hm : d = m) : trimD Q = digs (a / m) ∧ r = (a % m : Nat) := by
  have e := h.val
  rw [List.drop_zero, List.drop_zero, ha] at e
  have h0 := h.r0
  have h1 := h.rd
  subst hm
  have e2 : (a : Int) / m = dv Q ∧ (a : Int) % m = r := by
    have := Int.ediv_emod_unique (a := (a : Int)) (b := m) (r := r) (q := dv Q) (by omega)
    rw [this, Int.mul_comm]
    omega
  refine ⟨trimD_eq h.ok ?_, ?_⟩
  · rw [← e2.1]; rfl
  · rw [← e2.2]; rfl
end Go.Pv
