/- Ranges over functions that may be left early. -/
import Derived.Test.YtgjgcflgjpigpaaLRd
import Derived.Test.YtgjgcflgjpigpaaLNt
namespace Go.Pv
/-- The function g, over these values, gives n rounds, with these values each, until it is told to stop. -/
def GivesN (P : Program) (g : FuncId) (fs cs : List PV) (n : Nat) (x : Nat → List PV) : Prop :=
  ∀ (σ : Type) (S : σ → Store) (inv : Nat → σ → Prop) (fin : σ → Prop) (l : Nat),
    (∀ i s, inv i s → i < n → PRound P l (x i) (S s) fun e st' => ∃ s', st' = S s' ∧ ((e = .ret (.bool true) ∧ inv (i + 1) s') ∨ (e = .ret (.bool false) ∧ fin s'))) →
    ∀ s, inv 0 s → PCalls P g (fs ++ [.func (.yield l) [] []] ++ cs) (S s) fun e st' => e = .ret (.tuple []) ∧ ∃ s', st' = S s' ∧ (inv n s' ∨ fin s')
/-- A loop's body that is left by a return, or not. -/
def lsR {α : Type} : Option α → LoopState
  | none => .ready
  | some _ => .done
def lpR {α : Type} : Option α → Option Code
  | none => none
  | some _ => some .ret
@[simp] theorem lsR_none {α : Type} : lsR (none : Option α) = .ready := rfl
@[simp] theorem lsR_some {α : Type} (a : α) : lsR (some a) = .done := rfl
@[simp] theorem lpR_none {α : Type} : lpR (none : Option α) = none := rfl
@[simp] theorem lpR_some {α : Type} (a : α) : lpR (some a) = some .ret := rfl
end Go.Pv
/- Digits in rows: what walks over numbers need. -/
namespace Go.Pv
@[simp high] theorem or30 {x u : Int} {K : PV → Prop} (hx : 0 ≤ x) (hx2 : x ≤ 8589934591) (hu : 0 ≤ u) (hu2 : u < 1073741824) : xbin .or (.val (.int .i64 (x * 1073741824))) (.val (.int .i64 u)) K = K (.val (.int .i64 (x * 1073741824 + u))) := by
  rw [bin_or]
  simp only [true_and]
  exact congrArg (fun n => K (.val (.int .i64 n))) (or_low hx hu hu2 (by omega))
@[simp] theorem wrapL0 : IntKind.i64.wrap 0 = 0 := wrap_in (by decide) (by decide)
@[simp] theorem wrapL1 : IntKind.i64.wrap 1 = 1 := wrap_in (by decide) (by decide)
@[simp] theorem wrapL2 : IntKind.i64.wrap 2 = 2 := wrap_in (by decide) (by decide)
theorem shr30n (s : Int) : s.fdiv (2 ^ min 30 IntKind.i64.bits) = s / 1073741824 := shr30 s
theorem intRow_set (l : List Int) (i : Nat) (d : Int) : (intRow l).set i (.int d) = intRow (l.set i d) := by simp [intRow, List.map_set]
theorem carD_succ (f : Nat → Int) (i : Nat) : carD f (i + 1) = ((carD f i).1 ++ [(f i + (carD f i).2) % BB], (f i + (carD f i).2) / BB) := rfl
theorem carD_store {f : Nat → Int} {n i : Nat} (h : i < n) : (intRow ((carD f i).1 ++ List.replicate (n - i) 0)).set i (.int ((f i + (carD f i).2) % 1073741824)) = intRow ((carD f (i + 1)).1 ++ List.replicate (n - (i + 1)) 0) := by
  rw [intRow_set, carD_succ]
  congr 1
  rw [List.set_append_right _ _ (by rw [carD_len]; omega), carD_len, Nat.sub_self]
  obtain ⟨k, hk⟩ : ∃ k, n - i = k + 1 := ⟨n - i - 1, by omega⟩
  rw [hk, List.replicate_succ, List.set_cons_zero, show n - (i + 1) = k by omega]
  simp
theorem trimD_pre (l : List Int) : l.take (trimD l).length = trimD l := by
  unfold trimD
  rw [List.length_take, Nat.min_eq_left (by omega)]
theorem trimD_le (l : List Int) : (trimD l).length ≤ l.length := by
  unfold trimD
  rw [List.length_take]; omega
theorem intRow_take (l : List Int) (n : Nat) : (intRow l).take n = intRow (l.take n) := by simp [intRow, List.map_take]
theorem intRow_drop (l : List Int) (n : Nat) : (intRow l).drop n = intRow (l.drop n) := by simp [intRow, List.map_drop]
theorem intRow_rep (n : Nat) : intRow (List.replicate n 0) = List.replicate n (.int 0) := by simp [intRow]
/-- A row of one's own is handed out, without the zeros at its end. -/
theorem RetView.trim {c : PV → PEnd} {b cap : Nat} {T : TypeId} {l : List Int} {C : List PV} {st : Store} {Q : PEnd → Store → Prop} (hn : snew st b) (hc : l.length ≤ cap) (hc2 : cap ≤ 9223372036854775807)
    (h : RetView c (intLst false (trimD l)) st Q) : RetView c (.own b 0 (trimD l).length cap) ((b, .arr T (intRow l ++ C)) :: st) Q := by
  refine .fz 1 hn ?_
  have h1 := trimD_le l
  rw [fzp_own, if_pos ⟨rfl, by omega, hc2⟩, List.drop_zero, Nat.mul_one, List.take_append_of_le_length (by simpa using h1), intRow_take, trimD_pre]
  exact h
theorem RetView.trim0 {c : PV → PEnd} {b cap : Nat} {T : TypeId} {l : List Int} {st : Store} {Q : PEnd → Store → Prop} (hn : snew st b) (hc : l.length ≤ cap) (hc2 : cap ≤ 9223372036854775807)
    (h : RetView c (intLst false (trimD l)) st Q) : RetView c (.own b 0 (trimD l).length cap) ((b, .arr T (intRow l)) :: st) Q := by
  have := RetView.trim (T := T) (C := []) hn hc hc2 h
  rwa [List.append_nil] at this
theorem PB_nat (k : Nat) : PB k = ((1073741824 ^ k : Nat) : Int) := by
  unfold PB BB
  rw [Int.natCast_pow]; rfl
theorem digs_lt (a : Nat) : (a : Int) < PB (dl a) := by
  have := digs_len_lt a
  exact this
theorem subD {a b : Nat} (h : b ≤ a) : trimD (carD (fun i => dAt (digs a) i - dAt (digs b) i) (dl a)).1 = digs (a - b) := by
  refine carD_digs ?_ ?_
  · rw [sumD_sub, sumD_full (Nat.le_refl _), sumD_full (digs_len_mono h), dv_digs, dv_digs]
    omega
  · have h1 := digs_lt a
    omega
theorem movD (a k : Nat) (hk : k < 30) : trimD (carD (fun i => dAt (digs a) i * 2 ^ k) (dl a + 1)).1 = digs (a * 2 ^ k) := by
  refine carD_digs ?_ ?_
  · rw [sumD_mul, sumD_full (by show dl a ≤ _; omega), dv_digs]
    simp
  · rw [PB_nat, Nat.pow_succ]
    have h1 := (dl_le (n := a) (k := dl a)).1 (Nat.le_refl _)
    have h2 : 2 ^ k ≤ 1073741824 := Nat.pow_le_pow_right (n := 2) (by decide) (show k ≤ 30 by omega)
    have h3 : a * 2 ^ k < 1073741824 ^ dl a * 1073741824 := Nat.mul_lt_mul_of_lt_of_le h1 h2 (by decide)
    exact_mod_cast h3
/-- What is behind a return may be seen otherwise. -/
theorem PCalls.viewed {P : Program} {g : FuncId} {ps : List PV} {st : Store} {Q : PEnd → Store → Prop} (h : PCalls P g ps st fun e s => ∃ p, e = .ret p ∧ RetView .ret p s Q) : PCalls P g ps st Q := by
  rcases h with h | h
  · refine .inl ⟨h.enters, fun I w vs h1 h2 => (h.out I w vs h1 h2).mono fun en w' hh => ?_⟩
    obtain ⟨I', st', a, b, c, pe, d, p, e1, q, st2, hs, hq⟩ := hh
    subst e1
    obtain ⟨v, rfl, hv⟩ := d
    obtain ⟨I2, i1, i2, i3⟩ := hs.out I' w' v c hv
    exact ⟨I2, st2, Imm.le_trans a i1, b, i2, .ret q, ⟨v, rfl, i3⟩, hq⟩
  · refine .inr ⟨fun I w vs h1 h2 => ?_⟩
    obtain ⟨v, w', h3, I', st', a, b, c, p, d, p', e1, q, st2, hs, hq⟩ := h.out I w vs h1 h2
    cases e1
    obtain ⟨I2, i1, i2, i3⟩ := hs.out I' w' v c d
    exact ⟨v, w', h3, I2, st2, Imm.le_trans a i1, b, i2, q, i3, hq⟩
/-- Called so, the function gives a row of the caller's own: the digits l without the zeros at their end; all of them stand in the row. -/
def Owns (P : Program) (T : TypeId) (g : FuncId) (ps : List PV) (st : Store) (l : List Int) : Prop := PCalls P g ps st fun e s => ∃ b, snew st b ∧ e = .ret (.own b 0 (trimD l).length l.length) ∧ s = (b, .arr T (intRow l)) :: st
theorem Owns.rets {P : Program} {T : TypeId} {g : FuncId} {ps : List PV} {st : Store} {l : List Int} (hl : l.length ≤ 9223372036854775807) (h : Owns P T g ps st l) : Rets P g ps st (intLst false (trimD l)) :=
  PCalls.viewed (PCalls.mono h fun e s ⟨b, hb, he, hs⟩ => ⟨_, he, by subst hs; exact .trim0 hb (Nat.le_refl _) hl (.same ⟨rfl, rfl⟩)⟩)
end Go.Pv
/- Products of digits: plain facts. -/
namespace Go.Pv
structure MulInv (A B m : List Int) (i : Nat) : Prop where
  len : m.length = A.length + B.length
  ok : dOk m
  val : dv m = dv (A.take i) * dv B
  zer : ∀ j, i + B.length ≤ j → (h : j < m.length) → m[j] = 0
structure MulRow (A B m : List Int) (o : Int) (i k : Nat) (x : Int) : Prop where
  len : m.length = A.length + B.length
  ok : dOk m
  o0 : 0 ≤ o
  oB : o < BB
  val : dv m + PB (i + k) * o = dv (A.take i) * dv B + PB i * x * dv (B.take k)
  zer : ∀ j, i + B.length ≤ j → (h : j < m.length) → m[j] = 0
theorem MulInv.start (A B : List Int) : MulInv A B (List.replicate (A.length + B.length) 0) 0 :=
  ⟨by simp, dOk_zeros _, by rw [dv_zeros, List.take_zero, dv_nil, Int.zero_mul], fun j _ h => by simp⟩
theorem MulInv.row {A B m : List Int} {i : Nat} (h : MulInv A B m i) (x : Int) : MulRow A B m 0 i 0 x :=
  ⟨h.len, h.ok, Int.le_refl 0, by decide, by rw [Int.mul_zero, Int.add_zero, List.take_zero, dv_nil, Int.mul_zero, Int.add_zero]; exact h.val, h.zer⟩
theorem mul_range {a b c d : Int} (ha : 0 ≤ a ∧ a < BB) (hb : 0 ≤ b ∧ b < BB) (hc : 0 ≤ c ∧ c < BB) (hd : 0 ≤ d ∧ d < BB) : 0 ≤ a * b ∧ a * b ≤ 1152921502459363329 ∧ 0 ≤ c + a * b + d ∧ c + a * b + d ≤ 1152921504606846975 := by
  have h0 : 0 ≤ a * b := Int.mul_nonneg ha.1 hb.1
  have h1 : a * b ≤ 1073741823 * 1073741823 := Int.mul_le_mul (by unfold BB at ha; omega) (by unfold BB at hb; omega) hb.1 (by decide)
  unfold BB at hc hd
  omega
theorem MulRow.get {A B m : List Int} {o : Int} {i k : Nat} {x : Int} (h : MulRow A B m o i k x) (hi : i < A.length) (hk : k < B.length) : i + k < m.length := by rw [h.len]; omega
theorem MulRow.step {A B m : List Int} {o : Int} {i k : Nat} {x : Int} (h : MulRow A B m o i k x) (hB : dOk B) (hx : 0 ≤ x ∧ x < BB) (hi : i < A.length) (hk : k < B.length) {s : Int} (hs : s = m[i + k]'(h.get hi hk) + x * B[k] + o) :
    MulRow A B (m.set (i + k) (s % BB)) (s / BB) i (k + 1) x := by
  have hg := h.get hi hk
  have h2 := mul_range hx (dOk_get hB hk) (dOk_get h.ok hg) ⟨h.o0, h.oB⟩
  rw [← hs] at h2
  refine ⟨by rw [List.length_set, h.len], dOk_set h.ok _ ⟨Int.emod_nonneg _ (by decide), Int.emod_lt_of_pos _ (by decide)⟩, Int.ediv_nonneg h2.2.2.1 (by decide), Int.ediv_lt_of_lt_mul (by decide) (by unfold BB; omega), ?_, ?_⟩
  · rw [dv_set hg, dv_take_succ hk, Int.mul_add, ← Int.add_assoc, ← h.val, show i + (k + 1) = i + k + 1 by omega, PB_succ, PB_add]
    have e := Int.emod_add_mul_ediv s BB
    have e1 : PB i * PB k * (s % BB - m[i + k]) + BB * (PB i * PB k) * (s / BB) = PB i * PB k * (s - m[i + k]) := by
      have : BB * (PB i * PB k) * (s / BB) = PB i * PB k * (BB * (s / BB)) := by ac_rfl
      rw [this, ← Int.mul_add]
      congr 1
      omega
    have e2 : PB i * x * (PB k * B[k]) = PB i * PB k * (x * B[k]) := by ac_rfl
    rw [e2]
    have e3 : PB i * PB k * (s - m[i + k]) = PB i * PB k * (x * B[k]) + PB i * PB k * o := by
      rw [← Int.mul_add]
      congr 1
      omega
    omega
  · intro j hj hjl
    rw [List.length_set] at hjl
    rw [List.getElem_set_ne (by omega)]
    exact h.zer j hj hjl
theorem MulRow.done {A B m : List Int} {o : Int} {i : Nat} (hi : i < A.length) (h : MulRow A B m o i B.length A[i]) : MulInv A B (m.set (i + B.length) o) (i + 1) := by
  have hg : i + B.length < m.length := by rw [h.len]; omega
  refine ⟨by rw [List.length_set, h.len], dOk_set h.ok _ ⟨h.o0, h.oB⟩, ?_, ?_⟩
  · have e := h.val
    rw [List.take_of_length_le (Nat.le_refl _)] at e
    rw [dv_set hg, h.zer _ (Nat.le_refl _) hg, Int.sub_zero, e, dv_take_succ hi, Int.add_mul]
  · intro j hj hjl
    rw [List.length_set] at hjl
    rw [List.getElem_set_ne (by omega)]
    exact h.zer j (by omega) hjl
theorem MulInv.skip {A B m : List Int} {i : Nat} (h : MulInv A B m i) (hi : i < A.length) (h0 : A[i] = 0) : MulInv A B m (i + 1) :=
  ⟨h.len, h.ok, by rw [dv_take_succ hi, h0, Int.mul_zero, Int.add_zero]; exact h.val, fun j hj => h.zer j (by omega)⟩
theorem MulInv.fin {A B m : List Int} (h : MulInv A B m A.length) {a b : Nat} (ha : dv A = a) (hb : dv B = b) : trimD m = digs (a * b) := by
  refine trimD_eq h.ok ?_
  rw [h.val, List.take_of_length_le (Nat.le_refl _), ha, hb]
  simp
theorem fz_trim {b cap : Nat} {T : TypeId} {l : List Int} (hc : l.length ≤ cap) (hc2 : cap ≤ 9223372036854775807) : fzp b (.arr T (intRow l)) 1 (.own b 0 (trimD l).length cap) = intLst false (trimD l) := by
  have h1 := trimD_le l
  rw [fzp_own, if_pos ⟨rfl, by omega, hc2⟩, List.drop_zero, Nat.mul_one, intRow_take, trimD_pre]
theorem fz_trimC {b cap : Nat} {T : TypeId} {l : List Int} {C : List PV} (hc : l.length ≤ cap) (hc2 : cap ≤ 9223372036854775807) : fzp b (.arr T (intRow l ++ C)) 1 (.own b 0 (trimD l).length cap) = intLst false (trimD l) := by
  have h1 := trimD_le l
  rw [fzp_own, if_pos ⟨rfl, by omega, hc2⟩, List.drop_zero, Nat.mul_one, List.take_append_of_le_length (by simpa using h1), intRow_take, trimD_pre]
theorem Frzs.trim {b cap : Nat} {T : TypeId} {l : List Int} {C : List PV} {x : Int} (hc : l.length ≤ cap) (hc2 : cap ≤ 9223372036854775807) : Frzs b (.arr T (intRow l ++ C)) [.own b 0 (trimD l).length cap, .int x] [intLst false (trimD l), .int x] := by
  have := fzps_spec b (.arr T (intRow l ++ C)) 1 [.own b 0 (trimD l).length cap, .int x]
  rwa [fzps_cons, fz_trimC hc hc2, fzps_cons, fzp_int, fzps_nil] at this
theorem RetView.trimL {c : PV → PEnd} {b cap : Nat} {T : TypeId} {l m : List Int} {st : Store} {Q : PEnd → Store → Prop} (hn : snew st b) (hc : l.length ≤ cap) (hc2 : cap ≤ 9223372036854775807)
    (h : RetView c (.tuple [intLst false (trimD l), intLst false m]) st Q) : RetView c (.tuple [.own b 0 (trimD l).length cap, intLst false m]) ((b, .arr T (intRow l)) :: st) Q := by
  refine .fz 1 hn ?_
  have e : fzps b (.arr T (intRow l)) 1 (intRow m) = intRow m := fzps_plain b _ 1 fun p hp => by
    obtain ⟨a, -, rfl⟩ := List.mem_map.1 hp
    rfl
  rw [fzp_tuple, fzps_cons, fz_trim hc hc2, fzps_cons, fzp_list, fzps_nil, e]
  exact h
theorem RetView.trim2 {c : PV → PEnd} {b cap : Nat} {T : TypeId} {l : List Int} {x : Int} {st : Store} {Q : PEnd → Store → Prop} (hn : snew st b) (hc : l.length ≤ cap) (hc2 : cap ≤ 9223372036854775807)
    (h : RetView c (.tuple [intLst false (trimD l), .int x]) st Q) : RetView c (.tuple [.own b 0 (trimD l).length cap, .int x]) ((b, .arr T (intRow l)) :: st) Q := by
  refine .fz 1 hn ?_
  rw [fzp_tuple, fzps_cons, fz_trim hc hc2, fzps_cons, fzp_int, fzps_nil]
  exact h
theorem PLe.tuple2 {p q p' q' : PV} (h1 : PLe p p') (h2 : PLe q q') : PLe (.tuple [p, q]) (.tuple [p', q']) := fun I v h => by
  simp only [vrep] at h ⊢
  obtain ⟨vs, h3, h4⟩ := h
  match vs, h4 with
  | [a, b], h4 =>
    simp only [vreps] at h4
    exact ⟨[a, b], h3, by simp only [vreps]; exact ⟨h1 I _ h4.1, h2 I _ h4.2.1, trivial⟩⟩
theorem Sees.le {p q : PV} {st : Store} (h : PLe p q) : Sees p st q st := ⟨fun I _ v h1 h2 => ⟨I, I.le_refl, h1, h I v h2⟩⟩
theorem RetView.le {c : PV → PEnd} {p q : PV} {st : Store} {Q : PEnd → Store → Prop} (hp : PLe p q) (h : RetView c q st Q) : RetView c p st Q := .sees (.le hp) h
theorem PLe.nil0 : PLe .nil (intLst false []) := PLe.trans PLe.nil PLe.loose
/-- Division by one digit: so much of it is done. -/
structure ShInv (A Q : List Int) (d r : Int) (j : Nat) : Prop where
  len : Q.length = A.length
  ok : dOk Q
  r0 : 0 ≤ r
  rd : r < d
  val : dv (A.drop j) = dv (Q.drop j) * d + r
theorem ShInv.start (A : List Int) {d : Int} (hd : 0 < d) : ShInv A (List.replicate A.length 0) d 0 A.length :=
  ⟨by simp, dOk_zeros _, Int.le_refl 0, hd, by rw [List.drop_of_length_le (Nat.le_refl _), List.drop_of_length_le (by simp)]; simp [dv]⟩
theorem ShInv.step {A Q : List Int} {d r : Int} {j : Nat} (hd : 0 < d) (hA : dOk A) (hj : j < A.length) (h : ShInv A Q d r (j + 1)) : ShInv A (Q.set j ((r * BB + A[j]) / d)) d ((r * BB + A[j]) % d) j := by
  have hjq : j < Q.length := by rw [h.len]; exact hj
  have a1 := dOk_get hA hj
  obtain ⟨h1, h2, h3, h4⟩ := short_step hd h.r0 h.rd a1.1 a1.2
  refine ⟨by rw [List.length_set, h.len], dOk_set h.ok _ ⟨h1, h2⟩, h3, h4, ?_⟩
  rw [dv_drop_succ hj, dv_drop_succ (l := Q.set j _) (by rw [List.length_set]; exact hjq), List.getElem_set_self, List.drop_set_of_lt (by omega), h.val]
  have e := Int.emod_add_mul_ediv (r * BB + A[j]) d
  have e1 : BB * (dv (Q.drop (j + 1)) * d + r) = BB * dv (Q.drop (j + 1)) * d + r * BB := by rw [Int.mul_add, Int.mul_assoc, Int.mul_comm BB r]
  have e2 : (r * BB + A[j]) / d * d = d * ((r * BB + A[j]) / d) := Int.mul_comm ..
  rw [e1, Int.add_mul, e2]
  omega
theorem ShInv.fin {A Q : List Int} {d r : Int} (h : ShInv A Q d r 0) {a m : Nat} (ha : dv A = a) (hm : d = m) : trimD Q = digs (a / m) ∧ r = (a % m : Nat) := by
  have e := h.val
  rw [List.drop_zero, List.drop_zero, ha] at e
  have h0 := h.r0
  have h1 := h.rd
  subst hm
  have e2 : (a : Int) / m = dv Q ∧ (a : Int) % m = r := by
    have := Int.ediv_emod_unique (a := (a : Int)) (b := m) (r := r) (q := dv Q) (by omega)
    rw [this, Int.mul_comm]
    omega
  refine ⟨trimD_eq h.ok ?_, ?_⟩
  · rw [← e2.1]; rfl
  · rw [← e2.2]; rfl
end Go.Pv
/- Knuth's division: what stands between its steps. -/
namespace Go.Pv
structure LInv (A : Int) (V U Q : List Int) (r : Nat) : Prop where
  okU : dOk U
  okQ : dOk Q
  len : U.length = Q.length + V.length
  rq : r ≤ Q.length
  val : dv U + dv V * (PB r * dv (Q.drop r)) = A
  lt : dv U < PB r * dv V
theorem LInv.start {A : Int} {V U : List Int} {m : Nat} (hU : dOk U) (hlen : U.length = m + V.length) (hv : dv U = A) (hlt : A < PB m * dv V) : LInv A V U (List.replicate m 0) m :=
  ⟨hU, dOk_zeros _, by simpa using hlen, by simp, by rw [List.drop_of_length_le (by simp), dv_nil, Int.mul_zero, Int.mul_zero, Int.add_zero, hv], by rw [hv]; exact hlt⟩
theorem LInv.fin {A : Int} {V U Q : List Int} (h : LInv A V U Q 0) : dv U + dv V * dv Q = A ∧ 0 ≤ dv U ∧ dv U < dv V := by
  have h1 := h.val
  have h2 := h.lt
  rw [PB_zero, Int.one_mul, List.drop_zero] at h1
  rw [PB_zero, Int.one_mul] at h2
  exact ⟨h1, dv_nonneg h.okU, h2⟩
/-- The window of a step. -/
structure LWin (V U lo D : List Int) (tp : Int) (hi : List Int) (i : Nat) : Prop where
  eq : U = lo ++ (D ++ tp :: hi)
  llo : lo.length = i
  lD : D.length = V.length
  okLo : dOk lo
  okD : dOk D
  okHi : dOk hi
  tp0 : 0 ≤ tp
  tpB : tp < BB
  hi0 : dv hi = 0
  val : dv U = dv lo + PB i * (dv D + PB V.length * tp)
  lt : dv D + PB V.length * tp < BB * dv V
theorem LInv.win {A : Int} {V U Q : List Int} {i : Nat} (hV : dOk V) (h : LInv A V U Q (i + 1)) : ∃ lo D tp hi, LWin V U lo D tp hi i := by
  have hl := h.len
  have hr := h.rq
  have hik : i + V.length < U.length := by omega
  have e1 : U = U.take i ++ ((U.drop i).take V.length ++ U[i + V.length] :: U.drop (i + V.length + 1)) := by
    have e : U.drop (i + V.length) = U[i + V.length] :: U.drop (i + V.length + 1) := List.drop_eq_getElem_cons hik
    rw [← e, ← List.drop_drop, List.take_append_drop, List.take_append_drop]
  have okT := dOk_take h.okU i
  have okD : dOk ((U.drop i).take V.length) := dOk_take (dOk_drop h.okU i) _
  have okH := dOk_drop h.okU (i + V.length + 1)
  have tp := dOk_get h.okU hik
  have lT : (U.take i).length = i := by rw [List.length_take]; omega
  have lD : ((U.drop i).take V.length).length = V.length := by rw [List.length_take, List.length_drop]; omega
  suffices key : dv (U.drop (i + V.length + 1)) = 0 ∧ dv U = dv (U.take i) + PB i * (dv ((U.drop i).take V.length) + PB V.length * U[i + V.length]) ∧ dv ((U.drop i).take V.length) + PB V.length * U[i + V.length] < BB * dv V  from
    ⟨_, _, _, _, e1, lT, lD, okT, okD, okH, tp.1, tp.2, key.1, key.2.1, key.2.2⟩
  have hv : dv U = dv (U.take i) + PB i * (dv ((U.drop i).take V.length) + PB V.length * (U[i + V.length] + BB * dv (U.drop (i + V.length + 1)))) := by
    conv => lhs; rw [e1]
    rw [dv_append, dv_append, lT, lD, dv_cons]
  have hlt := h.lt
  rw [PB_succ] at hlt
  have hVlt := dv_lt hV
  have a1 := dv_nonneg okT
  have a2 := dv_nonneg okD
  have a3 := dv_nonneg okH
  generalize dv (U.take i) = x at *
  generalize dv ((U.drop i).take V.length) = y at *
  generalize dv (U.drop (i + V.length + 1)) = z at *
  generalize U[i + V.length] = t at *
  have pi := PB_pos i
  have pk := PB_pos V.length
  have hz : z = 0 := by
    apply Classical.byContradiction
    intro hz
    have b1 : BB * 1 ≤ BB * z := Int.mul_le_mul_of_nonneg_left (by omega) (by decide)
    have b2 : PB V.length * BB ≤ PB V.length * (t + BB * z) := Int.mul_le_mul_of_nonneg_left (by omega) (by omega)
    have b3 : PB i * (PB V.length * BB) ≤ PB i * (y + PB V.length * (t + BB * z)) := Int.mul_le_mul_of_nonneg_left (by omega) (by omega)
    have b4 : BB * PB i * dv V ≤ BB * PB i * PB V.length := Int.mul_le_mul_of_nonneg_left (by omega) (Int.mul_nonneg (by decide) (by omega))
    have b5 : BB * PB i * PB V.length = PB i * (PB V.length * BB) := by ac_rfl
    omega
  subst hz
  rw [Int.mul_zero, Int.add_zero] at hv
  refine ⟨rfl, hv, ?_⟩
  apply Int.not_le.1
  intro hge
  have b1 : PB i * (BB * dv V) ≤ PB i * (y + PB V.length * t) := Int.mul_le_mul_of_nonneg_left hge (by omega)
  have b2 : PB i * (BB * dv V) = BB * PB i * dv V := by ac_rfl
  omega
theorem LInv.step {A : Int} {V U Q : List Int} {i : Nat} {lo D : List Int} {tp : Int} {hi : List Int} (h : LInv A V U Q (i + 1)) (w : LWin V U lo D tp hi i) {M : List Int} {g : Int} (okM : dOk M) (lM : M.length = V.length)
    (hM : dv M = dv D + PB V.length * tp - g * dv V) (hM2 : dv M < dv V) (hg : 0 ≤ g ∧ g < BB) : LInv A V (lo ++ (M ++ 0 :: hi)) (Q.set i g) i := by
  have hr := h.rq
  have hvU : dv (lo ++ (M ++ 0 :: hi)) = dv lo + PB i * dv M := by
    rw [dv_append, dv_append, dv_cons, w.hi0, w.llo]
    simp
  have hlU : (lo ++ (M ++ 0 :: hi)).length = U.length := by
    rw [w.eq]
    simp only [List.length_append, List.length_cons, lM, w.lD]
  refine ⟨dOk_append.2 ⟨w.okLo, dOk_append.2 ⟨okM, dOk_cons.2 ⟨by decide, w.okHi⟩⟩⟩, dOk_set h.okQ _ hg, by rw [hlU, List.length_set, h.len], by rw [List.length_set]; omega, ?_, ?_⟩
  · have hv := h.val
    rw [w.val] at hv
    rw [hvU, dv_drop_succ (l := Q.set i g) (by rw [List.length_set]; omega), List.getElem_set_self, List.drop_set_of_lt (by omega), hM]
    rw [PB_succ] at hv
    rw [← hv]
    generalize dv D + PB V.length * tp = T
    generalize dv (Q.drop (i + 1)) = q
    rw [Int.mul_sub, Int.mul_add (PB i) g, Int.mul_add (dv V)]
    have e1 : PB i * (g * dv V) = dv V * (PB i * g) := by ac_rfl
    have e2 : dv V * (PB i * (BB * q)) = dv V * (BB * PB i * q) := by ac_rfl
    rw [e1, e2]
    omega
  · rw [hvU]
    have b1 := dv_lt w.okLo
    rw [w.llo] at b1
    have b2 : PB i * (dv M + 1) ≤ PB i * dv V := Int.mul_le_mul_of_nonneg_left (by omega) (by have := PB_pos i; omega)
    rw [Int.mul_add, Int.mul_one] at b2
    omega
/-- The window's digits for the guess. -/
theorem LWin.kn {V U lo D : List Int} {tp : Int} {hi : List Int} {i k : Nat} (w : LWin V U lo D tp hi i) (hk : V.length = k + 2) (hV : dOk V) (htop : 536870912 ≤ V[k + 1]) :
    Kn (tp * BB + D[k + 1]'(by rw [w.lD, hk]; omega)) V[k + 1] V[k] (D[k]'(by rw [w.lD, hk]; omega)) (PB k) (dv (V.take k)) (dv (D.take k)) (dv V) (dv D + PB V.length * tp) := by
  have lD : D.length = k + 2 := by rw [w.lD, hk]
  have hd : dv (D ++ [tp]) = dv D + PB V.length * tp := by rw [dv_snoc, w.lD]
  have h3 : (D ++ [tp]).length = k + 3 := by simp [lD]
  have := kn_of (V := V) (W := D ++ [tp]) (k := k) hk h3 hV (dOk_append.2 ⟨w.okD, dOk_cons.2 ⟨⟨w.tp0, w.tpB⟩, dOk_nil⟩⟩) htop (by rw [hd]; exact w.lt)
  have g1 : (D ++ [tp])[k + 2]'(by rw [h3]; omega) = tp := by simp [lD]
  have g2 : (D ++ [tp])[k + 1]'(by rw [h3]; omega) = D[k + 1] := List.getElem_append_left (by omega)
  have g3 : (D ++ [tp])[k]'(by rw [h3]; omega) = D[k] := List.getElem_append_left (by omega)
  have g4 : (D ++ [tp]).take k = D.take k := List.take_append_of_le_length (by omega)
  rw [hd, g1, g2, g3, g4] at this
  exact this
theorem two_pow_pos (s : Nat) : (0 : Int) < 2 ^ s := Int.pow_pos (by decide)
theorem shift_len {b k s : Nat} {t : Int} (hl : dl b = k + 2) (ht : t = (digs b)[k + 1]'(by unfold dl at hl; omega)) (h1 : 536870912 ≤ t * 2 ^ s) (h2 : t * 2 ^ s < 1073741824) (hs : s ≤ 30) :
    dl (b * 2 ^ s) = k + 2 ∧ ∀ h : k + 1 < (digs (b * 2 ^ s)).length, 536870912 ≤ (digs (b * 2 ^ s))[k + 1] := by
  have hk : k + 1 < (digs b).length := by unfold dl at hl; omega
  have e := dv_take_succ hk
  rw [List.take_of_length_le (by unfold dl at hl; omega), dv_digs, ← ht] at e
  have l0 := dv_nonneg (dOk_take (digs_ok b) (k + 1))
  have l1 := dv_lt (dOk_take (digs_ok b) (k + 1))
  rw [List.length_take, Nat.min_eq_left (by omega)] at l1
  have p0 := two_pow_pos s
  have pk := PB_pos (k + 1)
  have hpow : (1073741824 : Int) = 2 ^ (30 - s) * 2 ^ s := by rw [← Int.pow_add, show 30 - s + s = 30 by omega]; rfl
  have hlt : t < 2 ^ (30 - s) := by
    rw [hpow] at h2
    exact Int.lt_of_mul_lt_mul_right h2 (by omega)
  have hle : (t + 1) * 2 ^ s ≤ 1073741824 := by
    rw [hpow]
    exact Int.mul_le_mul_of_nonneg_right (by omega) (by omega)
  have eN : ((b * 2 ^ s : Nat) : Int) = (b : Int) * 2 ^ s := by push_cast; rfl
  have up : ((b * 2 ^ s : Nat) : Int) < PB (k + 2) := by
    rw [eN]
    have a1 : (b : Int) < PB (k + 1) * (t + 1) := by rw [Int.mul_add, Int.mul_one]; omega
    have a2 : (b : Int) * 2 ^ s < PB (k + 1) * (t + 1) * 2 ^ s := Int.mul_lt_mul_of_pos_right a1 p0
    have a3 : PB (k + 1) * ((t + 1) * 2 ^ s) ≤ PB (k + 1) * 1073741824 := Int.mul_le_mul_of_nonneg_left hle (by omega)
    rw [show k + 2 = (k + 1) + 1 by omega, PB_succ]
    rw [Int.mul_assoc] at a2
    have : BB * PB (k + 1) = PB (k + 1) * 1073741824 := Int.mul_comm ..
    omega
  have lw : PB (k + 1) * 536870912 ≤ ((b * 2 ^ s : Nat) : Int) := by
    rw [eN]
    have a1 : PB (k + 1) * t * 2 ^ s ≤ (b : Int) * 2 ^ s := Int.mul_le_mul_of_nonneg_right (by omega) (by omega)
    have a3 : PB (k + 1) * 536870912 ≤ PB (k + 1) * (t * 2 ^ s) := Int.mul_le_mul_of_nonneg_left h1 (by omega)
    rw [Int.mul_assoc] at a1
    omega
  have d1 : dl (b * 2 ^ s) ≤ k + 2 := digs_len_le.2 up
  have d2 : ¬ dl (b * 2 ^ s) ≤ k + 1 := by
    intro h
    have := digs_len_le.1 h
    omega
  have d3 : dl (b * 2 ^ s) = k + 2 := by omega
  refine ⟨d3, fun h => ?_⟩
  have e2 := dv_take_succ h
  rw [List.take_of_length_le (by unfold dl at d3; omega), dv_digs] at e2
  have m1 := dv_lt (dOk_take (digs_ok (b * 2 ^ s)) (k + 1))
  rw [List.length_take, Nat.min_eq_left (by omega)] at m1
  apply Int.not_lt.1
  intro hc
  have a1 : PB (k + 1) * (digs (b * 2 ^ s))[k + 1] ≤ PB (k + 1) * 536870911 := Int.mul_le_mul_of_nonneg_left (by omega) (by omega)
  omega
theorem LInv.fin2 {a b s : Nat} {U Q : List Int} (hb : b ≠ 0) (h : LInv ((a * 2 ^ s : Nat) : Int) (digs (b * 2 ^ s)) U Q 0) : trimD U = digs ((a % b) * 2 ^ s) ∧ trimD Q = digs (a / b) := by
  obtain ⟨h1, h2, h3⟩ := h.fin
  have hq := dv_nonneg h.okQ
  rw [dv_digs] at h1 h3
  obtain ⟨q, hq'⟩ : ∃ q : Nat, dv Q = q := ⟨(dv Q).toNat, by omega⟩
  obtain ⟨u, hu'⟩ : ∃ u : Nat, dv U = u := ⟨(dv U).toNat, by omega⟩
  rw [hq', hu'] at h1
  rw [hu'] at h3
  have h1 : u + b * 2 ^ s * q = a * 2 ^ s := by exact_mod_cast h1
  have h3 : u < b * 2 ^ s := by exact_mod_cast h3
  have p0 : 0 < 2 ^ s := Nat.pow_pos (by decide)
  have hqa : q = a / b := by
    symm
    rw [Nat.div_eq_iff (by omega)]
    have e1 : b * 2 ^ s * q = (q * b) * 2 ^ s := by ac_rfl
    constructor
    · apply Nat.le_of_mul_le_mul_right (c := 2 ^ s) _ p0
      omega
    · have : a * 2 ^ s < (q * b + b) * 2 ^ s := by rw [Nat.add_mul]; omega
      have := Nat.lt_of_mul_lt_mul_right this
      omega
  have hua : u = a % b * 2 ^ s := by
    have e := Nat.mod_add_div a b
    have e1 : a * 2 ^ s = a % b * 2 ^ s + b * 2 ^ s * q := by
      conv => lhs; rw [← e, hqa.symm]
      rw [Nat.add_mul]
      congr 1
      ac_rfl
    omega
  exact ⟨trimD_eq h.okU (by rw [hu', hua]), trimD_eq h.okQ (by rw [hq', hqa])⟩
/-- What the dividend is at first. -/
theorem LInv.first {a b k s : Nat} (hl : dl b = k + 2) (hab : b ≤ a) (hV : dl (b * 2 ^ s) = k + 2) (hs : s < 30) : LInv ((a * 2 ^ s : Nat) : Int) (digs (b * 2 ^ s)) ((digs (a * 2 ^ s) ++ [0, 0]).take (dl a + 1)) (List.replicate (dl a + 1 - (k + 2)) 0) (dl a + 1 - (k + 2)) := by
  have p0 : 0 < 2 ^ s := Nat.pow_pos (by decide)
  have hna : k + 2 ≤ dl a := by rw [← hl]; exact dl_mono hab
  have g1 : dl a ≤ dl (a * 2 ^ s) := dl_mono (Nat.le_mul_of_pos_right _ p0)
  have g2 : dl (a * 2 ^ s) ≤ dl a + 1 := by
    rw [dl_le, Nat.pow_succ]
    have h1 := (dl_le (n := a) (k := dl a)).1 (Nat.le_refl _)
    have h2 : 2 ^ s ≤ 1073741824 := Nat.pow_le_pow_right (n := 2) (by decide) (show s ≤ 30 by omega)
    exact Nat.mul_lt_mul_of_lt_of_le h1 h2 (by decide)
  have e : (digs (a * 2 ^ s) ++ [0, 0]).take (dl a + 1) = digs (a * 2 ^ s) ++ List.replicate (dl a + 1 - dl (a * 2 ^ s)) 0 := by
    rw [List.take_append, List.take_of_length_le g2, show ([0, 0] : List Int) = List.replicate 2 0 from rfl, List.take_replicate, Nat.min_eq_left (by have e0 : (digs (a * 2 ^ s)).length = dl (a * 2 ^ s) := rfl; omega)]
  have hlen : (digs (a * 2 ^ s) ++ List.replicate (dl a + 1 - dl (a * 2 ^ s)) (0 : Int)).length = dl a + 1 := by
    rw [List.length_append, List.length_replicate]
    have e0 : (digs (a * 2 ^ s)).length = dl (a * 2 ^ s) := rfl
    omega
  rw [e]
  have hlV : (digs (b * 2 ^ s)).length = k + 2 := hV
  refine .start (dOk_append.2 ⟨digs_ok _, dOk_zeros _⟩) (by rw [hlen, hlV]; omega) (by rw [dv_append, dv_zeros, dv_digs]; simp) ?_
  rw [dv_digs]
  have h1 : (b : Int) ≥ PB (k + 1) := by
    have := digs_len_ge (n := b) (by rintro rfl; rw [dl_zero] at hl; omega)
    rwa [show (digs b).length - 1 = k + 1 by unfold dl at hl; omega] at this
  have h2 := digs_lt a
  have p1 := two_pow_pos s
  have e1 : ((a * 2 ^ s : Nat) : Int) = a * 2 ^ s := by push_cast; rfl
  have e2 : ((b * 2 ^ s : Nat) : Int) = b * 2 ^ s := by push_cast; rfl
  rw [e1, e2, ← Int.mul_assoc]
  refine Int.mul_lt_mul_of_pos_right ?_ p1
  have e3 : PB (dl a) = PB (dl a + 1 - (k + 2)) * PB (k + 1) := by rw [← PB_add]; congr 1; omega
  have := Int.mul_le_mul_of_nonneg_left h1 (show 0 ≤ PB (dl a + 1 - (k + 2)) by have := PB_pos (dl a + 1 - (k + 2)); omega)
  omega
/-- A row in which a window is written. -/
theorem wr_get {lo X D hi : List Int} {C : List PV} {i j : Nat} (hl : lo.length = i) (hX : X.length = j) (hj : j < D.length) : (intRow (lo ++ (X ++ D.drop j ++ hi)) ++ C)[i + j]? = some (.int D[j]) := by
  have e : D.drop j = D[j] :: D.drop (j + 1) := List.drop_eq_getElem_cons hj
  have e2 : (lo ++ (X ++ D.drop j ++ hi)) = (lo ++ X) ++ (D[j] :: (D.drop (j + 1) ++ hi)) := by simp only [e, List.append_assoc, List.cons_append]
  have hlen : (lo ++ X).length = i + j := by rw [List.length_append, hl, hX]
  have hlt : i + j < (lo ++ (X ++ D.drop j ++ hi)).length := by rw [e2, List.length_append, hlen, List.length_cons]; omega
  rw [List.getElem?_append_left (by simpa using hlt), intRow_get _ _ hlt]
  simp only [e2]
  rw [List.getElem_append_right (by omega)]
  simp only [hlen, Nat.sub_self, List.getElem_cons_zero]
theorem wr_set {lo D hi : List Int} {C : List PV} {f : Nat → Int} {i j : Nat} (hl : lo.length = i) (hj : j < D.length) :
    (intRow (lo ++ ((carD f j).1 ++ D.drop j ++ hi)) ++ C).set (i + j) (.int ((f j + (carD f j).2) % 1073741824)) = intRow (lo ++ ((carD f (j + 1)).1 ++ D.drop (j + 1) ++ hi)) ++ C := by
  have e : D.drop j = D[j] :: D.drop (j + 1) := List.drop_eq_getElem_cons hj
  have hlen : (lo ++ (carD f j).1).length = i + j := by rw [List.length_append, hl, carD_len]
  have e2 : (lo ++ ((carD f j).1 ++ D.drop j ++ hi)) = (lo ++ (carD f j).1) ++ (D[j] :: (D.drop (j + 1) ++ hi)) := by simp only [e, List.append_assoc, List.cons_append]
  have hlt : i + j < (lo ++ ((carD f j).1 ++ D.drop j ++ hi)).length := by rw [e2, List.length_append, hlen, List.length_cons]; omega
  rw [List.set_append_left _ _ (by simpa using hlt), intRow_set, e2, List.set_append_right _ _ (by omega), hlen, Nat.sub_self, List.set_cons_zero, carD_succ]
  simp
theorem wr_top {lo M hi : List Int} {C : List PV} {i k : Nat} {x : Int} (hl : lo.length = i) (hM : M.length = k) : (intRow (lo ++ (M ++ x :: hi)) ++ C)[i + k]? = some (.int x) := by
  have e : (lo ++ (M ++ x :: hi)) = (lo ++ M) ++ (x :: hi) := by simp
  have hlen : (lo ++ M).length = i + k := by rw [List.length_append, hl, hM]
  have hlt : i + k < (lo ++ (M ++ x :: hi)).length := by rw [e, List.length_append, hlen, List.length_cons]; omega
  rw [List.getElem?_append_left (by simpa using hlt), intRow_get _ _ hlt]
  simp only [e]
  rw [List.getElem_append_right (by omega)]
  simp only [hlen, Nat.sub_self, List.getElem_cons_zero]
theorem wr_topset {lo M hi : List Int} {C : List PV} {i k : Nat} {x y : Int} (hl : lo.length = i) (hM : M.length = k) : (intRow (lo ++ (M ++ x :: hi)) ++ C).set (i + k) (.int y) = intRow (lo ++ (M ++ y :: hi)) ++ C := by
  have e : (lo ++ (M ++ x :: hi)) = (lo ++ M) ++ (x :: hi) := by simp
  have hlen : (lo ++ M).length = i + k := by rw [List.length_append, hl, hM]
  have hlt : i + k < (lo ++ (M ++ x :: hi)).length := by rw [e, List.length_append, hlen, List.length_cons]; omega
  rw [List.set_append_left _ _ (by simpa using hlt), intRow_set, e, List.set_append_right _ _ (by omega), hlen, Nat.sub_self, List.set_cons_zero]
  simp
theorem wr_dig {lo D hi : List Int} {C : List PV} {i j : Nat} (hl : lo.length = i) (hj : j < D.length) : (intRow (lo ++ (D ++ hi)) ++ C)[i + j]? = some (.int D[j]) := by
  have := wr_get (lo := lo) (X := D.take j) (D := D) (hi := hi) (C := C) (i := i) (j := j) hl (by rw [List.length_take]; omega) hj
  rwa [List.take_append_drop] at this
theorem Cls_out {p : Nat} {o : PObj} {st : Store} : Cls ((p, o) :: st) [p] st := fun b hb x h => by
  simp only [sget] at h
  split at h
  · rename_i e; subst e; simp at hb
  · exact h
end Go.Pv
/- Whole numbers with their signs: plain facts. -/
namespace Go.Pv
theorem sgn_mul (a b : Int) : decide (a * b < 0) = ((decide (a < 0) != decide (b < 0)) && decide (a.natAbs * b.natAbs ≠ 0)) := by
  rw [← Int.natAbs_mul]
  rcases Int.lt_trichotomy a 0 with ha | ha | ha
  · rcases Int.lt_trichotomy b 0 with hb | hb | hb
    · have h := Int.mul_pos_of_neg_of_neg ha hb
      have n1 : ¬ a * b < 0 := by omega
      simp [n1, ha, hb]
    · subst hb; simp
    · have h := Int.mul_neg_of_neg_of_pos ha hb
      have n1 : ¬ b < 0 := by omega
      have n2 : (a * b).natAbs ≠ 0 := by omega
      rw [decide_eq_true h, decide_eq_true ha, decide_eq_false n1, decide_eq_true n2]; rfl
  · subst ha; simp
  · rcases Int.lt_trichotomy b 0 with hb | hb | hb
    · have h := Int.mul_neg_of_pos_of_neg ha hb
      have n1 : ¬ a < 0 := by omega
      have n2 : (a * b).natAbs ≠ 0 := by omega
      rw [decide_eq_true h, decide_eq_true hb, decide_eq_false n1, decide_eq_true n2]; rfl
    · subst hb; simp
    · have h := Int.mul_pos ha hb
      have n1 : ¬ a * b < 0 := by omega
      have n2 : ¬ a < 0 := by omega
      have n3 : ¬ b < 0 := by omega
      simp [n1, n2, n3]
theorem zC_mul (a b : Int) : zC false (a * b) = [.bool ((decide (a < 0) != decide (b < 0)) && decide (a.natAbs * b.natAbs ≠ 0)), intLst false (digs (a.natAbs * b.natAbs))] := by
  unfold zC
  rw [sgn_mul, Int.natAbs_mul]
theorem PLe.agg2 {p q p' q' : PV} (h1 : PLe p p') (h2 : PLe q q') : PLe (.agg [p, q]) (.agg [p', q']) := fun I v h => by
  simp only [vrep] at h ⊢
  obtain ⟨vs, h3, h4⟩ := h
  match vs, h4 with
  | [a, b], h4 =>
    simp only [vcells] at h4
    exact ⟨[a, b], h3, by simp only [vcells]; exact ⟨⟨h1 I _ h4.1.1, h4.1.2⟩, ⟨h2 I _ h4.2.1.1, h4.2.1.2⟩, trivial⟩⟩
theorem gcd_step (m n : Nat) : Nat.gcd n (m % n) = Nat.gcd m n := by
  rw [Nat.gcd_comm n, ← Nat.gcd_rec, Nat.gcd_comm]
end Go.Pv
/- Functions that are deferred and do not recover. -/
namespace Go.Pv
def noRFm : MCode → Bool
  | .seq a b | .cond _ a b => noRFm a && noRFm b
  | .block _ c | .loop c => noRFm c
  | .rangeFunc .. => false
  | _ => true
theorem noRF_of {P : Program} {N : Lim} {keep : List Nat} : ∀ (c : Code) (m : MCode), convCode P N keep c = some m → noRFm m = true → noRF c = true
  | .seq a b, m, hc, h => by
    simp only [convCode] at hc
    split at hc
    · rename_i x y h1 h2
      simp only [Option.some.injEq] at hc
      subst hc
      simp only [noRFm, Bool.and_eq_true] at h
      simp only [noRF, Bool.and_eq_true]
      exact ⟨noRF_of a x h1 h.1, noRF_of b y h2 h.2⟩
    · cases hc
  | .cond c a b, m, hc, h => by
    simp only [convCode] at hc
    split at hc
    · rename_i z x y h0 h1 h2
      simp only [Option.some.injEq] at hc
      subst hc
      simp only [noRFm, Bool.and_eq_true] at h
      simp only [noRF, Bool.and_eq_true]
      exact ⟨noRF_of a x h1 h.1, noRF_of b y h2 h.2⟩
    · cases hc
  | .block id c, m, hc, h => by
    simp only [convCode, Option.map_eq_some_iff] at hc
    obtain ⟨x, h1, rfl⟩ := hc
    exact noRF_of c x h1 h
  | .loop c, m, hc, h => by
    simp only [convCode, Option.map_eq_some_iff] at hc
    obtain ⟨x, h1, rfl⟩ := hc
    exact noRF_of c x h1 h
  | .scope c, m, hc, h => by
    simp only [convCode] at hc
    exact noRF_of c m hc h
  | .rangeFunc f ps a b, m, hc, h => by
    simp only [convCode] at hc
    split at hc
    · split at hc
      · simp only [Option.some.injEq] at hc
        subst hc
        cases h
      · cases hc
    · cases hc
  | .skip, _, _, _ => rfl
  | .label _, _, _, _ => rfl
  | .region _ _ _, _, _, _ => rfl
  | .exit _, _, _, _ => rfl
  | .ret, _, _, _ => rfl
  | .goto _, _, _, _ => rfl
theorem settle_of {I : Imm} {u : PMode} {fu : FrameMode} (h : mrep I u fu) : settle fu = fu := by
  cases u with
  | returning => rw [show fu = .returning from h]; rfl
  | panicking p => obtain ⟨v, rfl, -⟩ := h; rfl
/-- What a plain function leaves that is called at the end. -/
theorem Has.pdef {P : Program} (hmix : P.follows .mixedOrders = true) {g : FuncId} {m : MFunc} (h : Has P g m) (hn : noRFm m.body = true) {ps : List PV} {u : PMode} {st : Store} {Q : PMode → Store → Prop} (hlen : ps.length = m.nparams)
    (hw : mwp P m.body (retPost m.results (fun _ st' => Q u st') (fun _ _ => False)) ⟨initEnv 0 ps, st⟩) : PDef P g ps u st Q := by
  obtain ⟨fn, hf, hname, hm⟩ := h
  unfold convFunc at hm
  split at hm
  · rename_i c hb
    split at hm
    · rename_i mc rs hmc hrs
      split at hm
      · rename_i hpar
        simp only [Option.some.injEq] at hm
        subst hm
        refine ⟨⟨fn, hf, hname, by rw [hb]; rfl⟩, fun I w vs fu hu hs hv => ?_⟩
        have hW : Wide Fence.wide := ⟨fun _ => trivial, rfl, rfl⟩
        have hrel := start_rel hpar hlen hs hv [] true
        refine (callsDIn_of_wp (R := fun e w' => (∃ v, e = .returned v) ∧ Held I w (fun _ st' => Q u st') w') hf hb trivial ?_).mono fun e u' w' hh => ?_
        · refine wpIn_mono (code_sound hmix hW c mc hmc (.inr (noRF_of c mc hmc hn)) _ I _ _ w hrel hw) fun e a' w' hq => ?_
          have done : ∀ {s : PS} {I' : Imm}, I.le I' → Calm w w' → Rel ⟨fn.ntmps, []⟩ ⟨[], [], I, true⟩ I' s a' w' → retPost rs (fun _ st' => Q u st') (fun _ _ => False) .normal s →
              a'.defers = [] ∧ ∃ v, (results fn a'.tmps).run P w' = .ok v w' ∧ (∃ v', (Ending.returned v) = .returned v') ∧ Held I w (fun _ st' => Q u st') w' := by
            intro s I' h1 h2 h3 h4
            simp only [retPost] at h4
            obtain ⟨qs, us, h5, h6, h7⟩ := results_sound h3.env h3.st _ _ hrs h4
            have hdef : a'.defers = [] := by
              have e1 := h3.fix.none rfl
              have e2 := h3.fix.defers
              cases hds : a'.defers with
              | nil => rfl
              | cons d L =>
                exfalso
                rw [hds] at e1 e2
                by_cases hmk : ∃ r, d.target = .collected r
                · obtain ⟨r, hr⟩ := hmk
                  rw [List.filterMap_cons_some (show markOf d = some r by unfold markOf; rw [hr])] at e1
                  cases e1
                · rw [List.filter_cons_of_pos (show notMark d = true by unfold notMark; split; (· rename_i r hr; exact absurd ⟨r, hr⟩ hmk); rfl)] at e2
                  cases e2
            have hrun : (results fn a'.tmps).run P w' = .ok (if hh : us.length = 1 then us[0] else .tuple us.toArray) w' := by
              rw [results_eq]
              have e : fn.results = fn.results.toList.toArray := by simp
              rw [e, List.mapM_toArray]
              simp only [Sem.run_bind, Sem.run_map, h7, Result.andThen_ok, Sem.run_pure]
              rfl
            exact ⟨hdef, _, hrun, ⟨_, rfl⟩, I', s.st, h1, h2, h3.st, h5⟩
          cases e with
          | normal => obtain ⟨I', s', h1, h2, h3, h4⟩ := hq; exact done h1 h2 h3 h4
          | ret => obtain ⟨I', s', h1, h2, h3, h4⟩ := hq; exact done h1 h2 h3 h4
          | panic ch => obtain ⟨v, rfl, I', st', h1, h2, h3, hd, p, h4, h5⟩ := hq; exact h5.elim
          | exit id => obtain ⟨_, _, _, _, _, h4⟩ := hq; exact h4.elim
          | goto l => exact hq.elim
          | outgrown => exact hq.elim
        · obtain ⟨rfl, hv, I', st', h1, h2, h3, h4⟩ := hh
          exact ⟨hv, I', st', h1, h2, h3, u, by rw [settle_of hu]; exact mrep_mono h1 hu, h4⟩
      · cases hm
    · cases hm
  · cases hm
theorem Has.defs {P : Program} (hmix : P.follows .mixedOrders = true) {g : FuncId} {m : MFunc} (h : Has P g m) {nt np : Nat} {rs : List MRes} {c : MCode} (hm : m = ⟨nt, np, rs, c⟩) (hn : noRFm c = true) {ps : List PV} {u : PMode} {st st' : Store} (hlen : ps.length = np)
    (hw : xwp P c (fun ex s => xret rs (fun _ s => s = st') (fun _ _ => False) ex s) ⟨initEnv 0 ps, st⟩) : Defs P g ps u st u st' := by
  subst hm
  refine PDef.mono (h.pdef hmix hn hlen (Q := fun v s => v = u ∧ s = st') ?_) fun _ _ h => h
  have e : (fun (_ : PV) (s : Store) => u = u ∧ s = st') = fun _ s => s = st' := by funext _ s; simp
  rw [e]
  exact hw
end Go.Pv
