/- Knuth's division: what stands between its steps. -/
import Derived.Test.YtliglilanpfjhaaLRf
namespace Go.Pv
structure LInv (A : Int) (V U Q : List Int) (r : Nat) : Prop where
  okU : dOk U
  okQ : dOk Q
  len : U.length = Q.length + V.length
  rq : r ≤ Q.length
  val : dv U + dv V * (PB r * dv (Q.drop r)) = A
  lt : dv U < PB r * dv V
theorem LInv.start {A : Int} {V U : List Int} {m : Nat} (hU : dOk U) (hlen : U.length = m + V.length) (hv : dv U = A) (hlt : A < PB m * dv V) : LInv A V U (List.replicate m 0) m :=
  ⟨hU, dOk_zeros _, by simpa using hlen, by simp, by rw [List.drop_of_length_le (by simp), dv_nil, Int.mul_zero, Int.mul_zero, Int.add_zero, hv], by rw [hv]; exact hlt⟩
theorem LInv.fin {A : Int} {V U Q : List Int} (h : LInv A V U Q 0) : dv U + dv V * dv Q = A ∧ 0 ≤ dv U ∧ dv U < dv V := by
  have h1 := h.val
  have h2 := h.lt
  rw [PB_zero, Int.one_mul, List.drop_zero] at h1
  rw [PB_zero, Int.one_mul] at h2
  exact ⟨h1, dv_nonneg h.okU, h2⟩
/-- The window of a step. -/
structure LWin (V U lo D : List Int) (tp : Int) (hi : List Int) (i : Nat) : Prop where
  eq : U = lo ++ (D ++ tp :: hi)
  llo : lo.length = i
  lD : D.length = V.length
  okLo : dOk lo
  okD : dOk D
  okHi : dOk hi
  tp0 : 0 ≤ tp
  tpB : tp < BB
  hi0 : dv hi = 0
  val : dv U = dv lo + PB i * (dv D + PB V.length * tp)
  lt : dv D + PB V.length * tp < BB * dv V
theorem LInv.win {A : Int} {V U Q : List Int} {i : Nat} (hV : dOk V) (h : LInv A V U Q (i + 1)) : ∃ lo D tp hi, LWin V U lo D tp hi i := by
  have hl := h.len
  have hr := h.rq
  have hik : i + V.length < U.length := by omega
  have e1 : U = U.take i ++ ((U.drop i).take V.length ++ U[i + V.length] :: U.drop (i + V.length + 1)) := by
    have e : U.drop (i + V.length) = U[i + V.length] :: U.drop (i + V.length + 1) := List.drop_eq_getElem_cons hik
    rw [← e, ← List.drop_drop, List.take_append_drop, List.take_append_drop]
  have okT := dOk_take h.okU i
  have okD : dOk ((U.drop i).take V.length) := dOk_take (dOk_drop h.okU i) _
  have okH := dOk_drop h.okU (i + V.length + 1)
  have tp := dOk_get h.okU hik
  have lT : (U.take i).length = i := by rw [List.length_take]; omega
  have lD : ((U.drop i).take V.length).length = V.length := by rw [List.length_take, List.length_drop]; omega
  suffices key : dv (U.drop (i + V.length + 1)) = 0 ∧ dv U = dv (U.take i) + PB i * (dv ((U.drop i).take V.length) + PB V.length * U[i + V.length]) ∧ dv ((U.drop i).take V.length) + PB V.length * U[i + V.length] < BB * dv V  from
    ⟨_, _, _, _, e1, lT, lD, okT, okD, okH, tp.1, tp.2, key.1, key.2.1, key.2.2⟩
  have hv : dv U = dv (U.take i) + PB i * (dv ((U.drop i).take V.length) + PB V.length * (U[i + V.length] + BB * dv (U.drop (i + V.length + 1)))) := by
    conv => lhs; rw [e1]
    rw [dv_append, dv_append, lT, lD, dv_cons]
  have hlt := h.lt
  rw [PB_succ] at hlt
  have hVlt := dv_lt hV
  have a1 := dv_nonneg okT
  have a2 := dv_nonneg okD
  have a3 := dv_nonneg okH
  generalize dv (U.take i) = x at *
  generalize dv ((U.drop i).take V.length) = y at *
  generalize dv (U.drop (i + V.length + 1)) = z at *
  generalize U[i + V.length] = t at *
  have pi := PB_pos i
  have pk := PB_pos V.length
  have hz : z = 0 := by
    apply Classical.byContradiction
    intro hz
    have b1 : BB * 1 ≤ BB * z := Int.mul_le_mul_of_nonneg_left (by omega) (by decide)
    have b2 : PB V.length * BB ≤ PB V.length * (t + BB * z) := Int.mul_le_mul_of_nonneg_left (by omega) (by omega)
    have b3 : PB i * (PB V.length * BB) ≤ PB i * (y + PB V.length * (t + BB * z)) := Int.mul_le_mul_of_nonneg_left (by omega) (by omega)
    have b4 : BB * PB i * dv V ≤ BB * PB i * PB V.length := Int.mul_le_mul_of_nonneg_left (by omega) (Int.mul_nonneg (by decide) (by omega))
    have b5 : BB * PB i * PB V.length = PB i * (PB V.length * BB) := by ac_rfl
    omega
  subst hz
  rw [Int.mul_zero, Int.add_zero] at hv
  refine ⟨rfl, hv, ?_⟩
  apply Int.not_le.1
  intro hge
  have b1 : PB i * (BB * dv V) ≤ PB i * (y + PB V.length * t) := Int.mul_le_mul_of_nonneg_left hge (by omega)
  have b2 : PB i * (BB * dv V) = BB * PB i * dv V := by ac_rfl
  omega
theorem LInv.step {A : Int} {V U Q : List Int} {i : Nat} {lo D : List Int} {tp : Int} {hi : List Int} (h : LInv A V U Q (i + 1)) (w : LWin V U lo D tp hi i) {M : List Int} {g : Int} (okM : dOk M) (lM : M.length = V.length)
    (hM : dv M = dv D + PB V.length * tp - g * dv V) (hM2 : dv M < dv V) (hg : 0 ≤ g ∧ g < BB) : LInv A V (lo ++ (M ++ 0 :: hi)) (Q.set i g) i := by
  have hr := h.rq
  have hvU : dv (lo ++ (M ++ 0 :: hi)) = dv lo + PB i * dv M := by
    rw [dv_append, dv_append, dv_cons, w.hi0, w.llo]
    simp
  have hlU : (lo ++ (M ++ 0 :: hi)).length = U.length := by
    rw [w.eq]
    simp only [List.length_append, List.length_cons, lM, w.lD]
  refine ⟨dOk_append.2 ⟨w.okLo, dOk_append.2 ⟨okM, dOk_cons.2 ⟨by decide, w.okHi⟩⟩⟩, dOk_set h.okQ _ hg, by rw [hlU, List.length_set, h.len], by rw [List.length_set]; omega, ?_, ?_⟩
  · have hv := h.val
    rw [w.val] at hv
    rw [hvU, dv_drop_succ (l := Q.set i g) (by rw [List.length_set]; omega), List.getElem_set_self, List.drop_set_of_lt (by omega), hM]
    rw [PB_succ] at hv
    rw [← hv]
    generalize dv D + PB V.length * tp = T
    generalize dv (Q.drop (i + 1)) = q
    rw [Int.mul_sub, Int.mul_add (PB i) g, Int.mul_add (dv V)]
    have e1 : PB i * (g * dv V) = dv V * (PB i * g) := by ac_rfl
    have e2 : dv V * (PB i * (BB * q)) = dv V * (BB * PB i * q) := by ac_rfl
    rw [e1, e2]
    omega
  · rw [hvU]
    have b1 := dv_lt w.okLo
    rw [w.llo] at b1
    have b2 : PB i * (dv M + 1) ≤ PB i * dv V := Int.mul_le_mul_of_nonneg_left (by omega) (by have := PB_pos i; omega)
    rw [Int.mul_add, Int.mul_one] at b2
    omega
/-- The window's digits for the guess. -/
theorem LWin.kn {V U lo D : List Int} {tp : Int} {hi : List Int} {i k : Nat} (w : LWin V U lo D tp hi i) (hk : V.length = k + 2) (hV : dOk V) (htop : 536870912 ≤ V[k + 1]) :
    Kn (tp * BB + D[k + 1]'(by rw [w.lD, hk]; omega)) V[k + 1] V[k] (D[k]'(by rw [w.lD, hk]; omega)) (PB k) (dv (V.take k)) (dv (D.take k)) (dv V) (dv D + PB V.length * tp) := by
  have lD : D.length = k + 2 := by rw [w.lD, hk]
  have hd : dv (D ++ [tp]) = dv D + PB V.length * tp := by rw [dv_snoc, w.lD]
  have h3 : (D ++ [tp]).length = k + 3 := by simp [lD]
  have := kn_of (V := V) (W := D ++ [tp]) (k := k) hk h3 hV (dOk_append.2 ⟨w.okD, dOk_cons.2 ⟨⟨w.tp0, w.tpB⟩, dOk_nil⟩⟩) htop (by rw [hd]; exact w.lt)
  have g1 : (D ++ [tp])[k + 2]'(by rw [h3]; omega) = tp := by simp [lD]
  have g2 : (D ++ [tp])[k + 1]'(by rw [h3]; omega) = D[k + 1] := List.getElem_append_left (by omega)
  have g3 : (D ++ [tp])[k]'(by rw [h3]; omega) = D[k] := List.getElem_append_left (by omega)
  have g4 : (D ++ [tp]).take k = D.take k := List.take_append_of_le_length (by omega)
  rw [hd, g1, g2, g3, g4] at this
  exact this
theorem two_pow_pos (s : Nat) : (0 : Int) < 2 ^ s := Int.pow_pos (by decide)
theorem shift_len {b k s : Nat} {t : Int} (hl : dl b = k + 2) (ht : t = (digs b)[k + 1]'(by unfold dl at hl; omega)) (h1 : 536870912 ≤ t * 2 ^ s) (h2 : t * 2 ^ s < 1073741824) (hs : s ≤ 30) :
    dl (b * 2 ^ s) = k + 2 ∧ ∀ h : k + 1 < (digs (b * 2 ^ s)).length, 536870912 ≤ (digs (b * 2 ^ s))[k + 1] := by
  have hk : k + 1 < (digs b).length := by unfold dl at hl; omega
  have e := dv_take_succ hk
  rw [List.take_of_length_le (by unfold dl at hl; omega), dv_digs, ← ht] at e
  have l0 := dv_nonneg (dOk_take (digs_ok b) (k + 1))
  have l1 := dv_lt (dOk_take (digs_ok b) (k + 1))
  rw [List.length_take, Nat.min_eq_left (by omega)] at l1
  have p0 := two_pow_pos s
  have pk := PB_pos (k + 1)
  have hpow : (1073741824 : Int) = 2 ^ (30 - s) * 2 ^ s := by rw [← Int.pow_add, show 30 - s + s = 30 by omega]; rfl
  have hlt : t < 2 ^ (30 - s) := by
    rw [hpow] at h2
    exact Int.lt_of_mul_lt_mul_right h2 (by omega)
  have hle : (t + 1) * 2 ^ s ≤ 1073741824 := by
    rw [hpow]
    exact Int.mul_le_mul_of_nonneg_right (by omega) (by omega)
  have eN : ((b * 2 ^ s : Nat) : Int) = (b : Int) * 2 ^ s := by push_cast; rfl
  have up : ((b * 2 ^ s : Nat) : Int) < PB (k + 2) := by
    rw [eN]
    have a1 : (b : Int) < PB (k + 1) * (t + 1) := by rw [Int.mul_add, Int.mul_one]; omega
    have a2 : (b : Int) * 2 ^ s < PB (k + 1) * (t + 1) * 2 ^ s := Int.mul_lt_mul_of_pos_right a1 p0
    have a3 : PB (k + 1) * ((t + 1) * 2 ^ s) ≤ PB (k + 1) * 1073741824 := Int.mul_le_mul_of_nonneg_left hle (by omega)
    rw [show k + 2 = (k + 1) + 1 by omega, PB_succ]
    rw [Int.mul_assoc] at a2
    have : BB * PB (k + 1) = PB (k + 1) * 1073741824 := Int.mul_comm ..
    omega
  have lw : PB (k + 1) * 536870912 ≤ ((b * 2 ^ s : Nat) : Int) := by
    rw [eN]
    have a1 : PB (k + 1) * t * 2 ^ s ≤ (b : Int) * 2 ^ s := Int.mul_le_mul_of_nonneg_right (by omega) (by omega)
    have a3 : PB (k + 1) * 536870912 ≤ PB (k + 1) * (t * 2 ^ s) := Int.mul_le_mul_of_nonneg_left h1 (by omega)
    rw [Int.mul_assoc] at a1
    omega
  have d1 : dl (b * 2 ^ s) ≤ k + 2 := digs_len_le.2 up
  have d2 : ¬ dl (b * 2 ^ s) ≤ k + 1 := by
    intro h
    have := digs_len_le.1 h
    omega
  have d3 : dl (b * 2 ^ s) = k + 2 := by omega
  refine ⟨d3, fun h => ?_⟩
  have e2 := dv_take_succ h
  rw [List.take_of_length_le (by unfold dl at d3; omega), dv_digs] at e2
  have m1 := dv_lt (dOk_take (digs_ok (b * 2 ^ s)) (k + 1))
  rw [List.length_take, Nat.min_eq_left (by omega)] at m1
  apply Int.not_lt.1
  intro hc
  have a1 : PB (k + 1) * (digs (b * 2 ^ s))[k + 1] ≤ PB (k + 1) * 536870911 := Int.mul_le_mul_of_nonneg_left (by omega) (by omega)
  omega
theorem LInv.fin2 {a b s : Nat} {U Q : List Int} (hb : b ≠ 0) (h : LInv ((a * 2 ^ s : Nat) : Int) (digs (b * 2 ^ s)) U Q 0) : trimD U = digs ((a % b) * 2 ^ s) ∧ trimD Q = digs (a / b) := by
  obtain ⟨h1, h2, h3⟩ := h.fin
  have hq := dv_nonneg h.okQ
  rw [dv_digs] at h1 h3
  obtain ⟨q, hq'⟩ : ∃ q : Nat, dv Q = q := ⟨(dv Q).toNat, by omega⟩
  obtain ⟨u, hu'⟩ : ∃ u : Nat, dv U = u := ⟨(dv U).toNat, by omega⟩
  rw [hq', hu'] at h1
  rw [hu'] at h3
  have h1 : u + b * 2 ^ s * q = a * 2 ^ s := by exact_mod_cast h1
  have h3 : u < b * 2 ^ s := by exact_mod_cast h3
  have p0 : 0 < 2 ^ s := Nat.pow_pos (by decide)
  have hqa : q = a / b := by
    symm
    rw [Nat.div_eq_iff (by omega)]
    have e1 : b * 2 ^ s * q = (q * b) * 2 ^ s := by ac_rfl
    constructor
    · apply Nat.le_of_mul_le_mul_right (c := 2 ^ s) _ p0
      omega
    · have : a * 2 ^ s < (q * b + b) * 2 ^ s := by rw [Nat.add_mul]; omega
      have := Nat.lt_of_mul_lt_mul_right this
      omega
  have hua : u = a % b * 2 ^ s := by
    have e := Nat.mod_add_div a b
    have e1 : a * 2 ^ s = a % b * 2 ^ s + b * 2 ^ s * q := by
      conv => lhs; rw [← e, hqa.symm]
      rw [Nat.add_mul]
      congr 1
      ac_rfl
    omega
  exact ⟨trimD_eq h.okU (by rw [hu', hua]), trimD_eq h.okQ (by rw [hq', hqa])⟩
/-- What the dividend is at first. -/
theorem LInv.first {a b k s : Nat} (hl : dl b = k + 2) (hab : b ≤ a) (hV : dl (b * 2 ^ s) = k + 2) (hs : s < 30) : LInv ((a * 2 ^ s : Nat) : Int) (digs (b * 2 ^ s)) ((digs (a * 2 ^ s) ++ [0, 0]).take (dl a + 1)) (List.replicate (dl a + 1 - (k + 2)) 0) (dl a + 1 - (k + 2)) := by
  have p0 : 0 < 2 ^ s := Nat.pow_pos (by decide)
  have hna : k + 2 ≤ dl a := by rw [← hl]; exact dl_mono hab
  have g1 : dl a ≤ dl (a * 2 ^ s) := dl_mono (Nat.le_mul_of_pos_right _ p0)
  have g2 : dl (a * 2 ^ s) ≤ dl a + 1 := by
    rw [dl_le, Nat.pow_succ]
    have h1 := (dl_le (n := a) (k := dl a)).1 (Nat.le_refl _)
    have h2 : 2 ^ s ≤ 1073741824 := Nat.pow_le_pow_right (n := 2) (by decide) (show s ≤ 30 by omega)
    exact Nat.mul_lt_mul_of_lt_of_le h1 h2 (by decide)
  have e : (digs (a * 2 ^ s) ++ [0, 0]).take (dl a + 1) = digs (a * 2 ^ s) ++ List.replicate (dl a + 1 - dl (a * 2 ^ s)) 0 := by
    rw [List.take_append, List.take_of_length_le g2, show ([0, 0] : List Int) = List.replicate 2 0 from rfl, List.take_replicate, Nat.min_eq_left (by have e0 : (digs (a * 2 ^ s)).length = dl (a * 2 ^ s) := rfl; omega)]
  have hlen : (digs (a * 2 ^ s) ++ List.replicate (dl a + 1 - dl (a * 2 ^ s)) (0 : Int)).length = dl a + 1 := by
    rw [List.length_append, List.length_replicate]
    have e0 : (digs (a * 2 ^ s)).length = dl (a * 2 ^ s) := rfl
    omega
  rw [e]
  have hlV : (digs (b * 2 ^ s)).length = k + 2 := hV
  refine .start (dOk_append.2 ⟨digs_ok _, dOk_zeros _⟩) (by rw [hlen, hlV]; omega) (by rw [dv_append, dv_zeros, dv_digs]; simp) ?_
  rw [dv_digs]
  have h1 : (b : Int) ≥ PB (k + 1) := by
    have := digs_len_ge (n := b) (by rintro rfl; rw [dl_zero] at hl; omega)
    rwa [show (digs b).length - 1 = k + 1 by unfold dl at hl; omega] at this
  have h2 := digs_lt a
  have p1 := two_pow_pos s
  have e1 : ((a * 2 ^ s : Nat) : Int) = a * 2 ^ s := by push_cast; rfl
  have e2 : ((b * 2 ^ s : Nat) : Int) = b * 2 ^ s := by push_cast; rfl
  rw [e1, e2, ← Int.mul_assoc]
  refine Int.mul_lt_mul_of_pos_right ?_ p1
  have e3 : PB (dl a) = PB (dl a + 1 - (k + 2)) * PB (k + 1) := by rw [← PB_add]; congr 1; omega
  have := Int.mul_le_mul_of_nonneg_left h1 (show 0 ≤ PB (dl a + 1 - (k + 2)) by have := PB_pos (dl a + 1 - (k + 2)); omega)
  omega
/-- A row in which a window is written. -/
theorem wr_get {lo X D hi : List Int} {C : List PV} {i j : Nat} (hl : lo.length = i) (hX : X.length = j) (hj : j < D.length) : (intRow (lo ++ (X ++ D.drop j ++ hi)) ++ C)[i + j]? = some (.int D[j]) := by
  have e : D.drop j = D[j] :: D.drop (j + 1) := List.drop_eq_getElem_cons hj
  have e2 : (lo ++ (X ++ D.drop j ++ hi)) = (lo ++ X) ++ (D[j] :: (D.drop (j + 1) ++ hi)) := by simp only [e, List.append_assoc, List.cons_append]
  have hlen : (lo ++ X).length = i + j := by rw [List.length_append, hl, hX]
  have hlt : i + j < (lo ++ (X ++ D.drop j ++ hi)).length := by rw [e2, List.length_append, hlen, List.length_cons]; omega
  rw [List.getElem?_append_left (by simpa using hlt), intRow_get _ _ hlt]
  simp only [e2]
  rw [List.getElem_append_right (by omega)]
  simp only [hlen, Nat.sub_self, List.getElem_cons_zero]
theorem wr_set {lo D hi : List Int} {C : List PV} {f : Nat → Int} {i j : Nat} (hl : lo.length = i) (hj : j < D.length) :
    (intRow (lo ++ ((carD f j).1 ++ D.drop j ++ hi)) ++ C).set (i + j) (.int ((f j + (carD f j).2) % 1073741824)) = intRow (lo ++ ((carD f (j + 1)).1 ++ D.drop (j + 1) ++ hi)) ++ C := by
  have e : D.drop j = D[j] :: D.drop (j + 1) := List.drop_eq_getElem_cons hj
  have hlen : (lo ++ (carD f j).1).length = i + j := by rw [List.length_append, hl, carD_len]
  have e2 : (lo ++ ((carD f j).1 ++ D.drop j ++ hi)) = (lo ++ (carD f j).1) ++ (D[j] :: (D.drop (j + 1) ++ hi)) := by simp only [e, List.append_assoc, List.cons_append]
  have hlt : i + j < (lo ++ ((carD f j).1 ++ D.drop j ++ hi)).length := by rw [e2, List.length_append, hlen, List.length_cons]; omega
  rw [List.set_append_left _ _ (by simpa using hlt), intRow_set, e2, List.set_append_right _ _ (by omega), hlen, Nat.sub_self, List.set_cons_zero, carD_succ]
  simp
theorem wr_top {lo M hi : List Int} {C : List PV} {i k : Nat} {x : Int} (hl : lo.length = i) (hM : M.length = k) : (intRow (lo ++ (M ++ x :: hi)) ++ C)[i + k]? = some (.int x) := by
  have e : (lo ++ (M ++ x :: hi)) = (lo ++ M) ++ (x :: hi) := by simp
  have hlen : (lo ++ M).length = i + k := by rw [List.length_append, hl, hM]
  have hlt : i + k < (lo ++ (M ++ x :: hi)).length := by rw [e, List.length_append, hlen, List.length_cons]; omega
  rw [List.getElem?_append_left (by simpa using hlt), intRow_get _ _ hlt]
  simp only [e]
  rw [List.getElem_append_right (by omega)]
  simp only [hlen, Nat.sub_self, List.getElem_cons_zero]
theorem wr_topset {lo M hi : List Int} {C : List PV} {i k : Nat} {x y : Int} (hl : lo.length = i) (hM : M.length = k) : (intRow (lo ++ (M ++ x :: hi)) ++ C).set (i + k) (.int y) = intRow (lo ++ (M ++ y :: hi)) ++ C := by
  have e : (lo ++ (M ++ x :: hi)) = (lo ++ M) ++ (x :: hi) := by simp
  have hlen : (lo ++ M).length = i + k := by rw [List.length_append, hl, hM]
  have hlt : i + k < (lo ++ (M ++ x :: hi)).length := by rw [e, List.length_append, hlen, List.length_cons]; omega
  rw [List.set_append_left _ _ (by simpa using hlt), intRow_set, e, List.set_append_right _ _ (by omega), hlen, Nat.sub_self, List.set_cons_zero]
  simp
theorem wr_dig {lo D hi : List Int} {C : List PV} {i j : Nat} (hl : lo.length = i) (hj : j < D.length) : (intRow (lo ++ (D ++ hi)) ++ C)[i + j]? = some (.int D[j]) := by
  have := wr_get (lo := lo) (X := D.take j) (D := D) (hi := hi) (C := C) (i := i) (j := j) hl (by rw [List.length_take]; omega) hj
  rwa [List.take_append_drop] at this
theorem Cls_out {p : Nat} {o : PObj} {st : Store} : Cls ((p, o) :: st) [p] st := fun b hb x h => by
  simp only [sget] at h
  split at h
  · rename_i e; subst e; simp at hb
  · exact h
end Go.Pv
/- Whole numbers with their signs: plain facts. -/
namespace Go.Pv
theorem sgn_mul (a b : Int) : decide (a * b < 0) = ((decide (a < 0) != decide (b < 0)) && decide (a.natAbs * b.natAbs ≠ 0)) := by
  rw [← Int.natAbs_mul]
  rcases Int.lt_trichotomy a 0 with ha | ha | ha
  · rcases Int.lt_trichotomy b 0 with hb | hb | hb
    · have h := Int.mul_pos_of_neg_of_neg ha hb
      have n1 : ¬ a * b < 0 := by omega
      simp [n1, ha, hb]
    · subst hb; simp
    · have h := Int.mul_neg_of_neg_of_pos ha hb
      have n1 : ¬ b < 0 := by omega
      have n2 : (a * b).natAbs ≠ 0 := by omega
      rw [decide_eq_true h, decide_eq_true ha, decide_eq_false n1, decide_eq_true n2]; rfl
  · subst ha; simp
  · rcases Int.lt_trichotomy b 0 with hb | hb | hb
    · have h := Int.mul_neg_of_pos_of_neg ha hb
      have n1 : ¬ a < 0 := by omega
      have n2 : (a * b).natAbs ≠ 0 := by omega
      rw [decide_eq_true h, decide_eq_true hb, decide_eq_false n1, decide_eq_true n2]; rfl
    · subst hb; simp
    · have h := Int.mul_pos ha hb
      have n1 : ¬ a * b < 0 := by omega
      have n2 : ¬ a < 0 := by omega
      have n3 : ¬ b < 0 := by omega
      simp [n1, n2, n3]
theorem zC_mul (a b : Int) : zC false (a * b) = [.bool ((decide (a < 0) != decide (b < 0)) && decide (a.natAbs * b.natAbs ≠ 0)), intLst false (digs (a.natAbs * b.natAbs))] := by
  unfold zC
  rw [sgn_mul, Int.natAbs_mul]
theorem PLe.agg2 {p q p' q' : PV} (h1 : PLe p p') (h2 : PLe q q') : PLe (.agg [p, q]) (.agg [p', q']) := fun I v h => by
  simp only [vrep] at h ⊢
  obtain ⟨vs, h3, h4⟩ := h
  match vs, h4 with
  | [a, b], h4 =>
    simp only [vcells] at h4
    exact ⟨[a, b], h3, by simp only [vcells]; exact ⟨⟨h1 I _ h4.1.1, h4.1.2⟩, ⟨h2 I _ h4.2.1.1, h4.2.1.2⟩, trivial⟩⟩
theorem natAbs_gcd_lt {a b : Nat} (h : b ≠ 0) : a % b < b := Nat.mod_lt _ (by omega)
theorem gcd_step (m n : Nat) : Nat.gcd n (m % n) = Nat.gcd m n := by
  rw [Nat.gcd_comm n, ← Nat.gcd_rec, Nat.gcd_comm]
end Go.Pv
