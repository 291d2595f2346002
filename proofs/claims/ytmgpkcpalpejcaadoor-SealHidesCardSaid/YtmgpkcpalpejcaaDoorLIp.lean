/- Plain: polynomials modulo the prime, and the one through some points. -/
import Derived.KernelRfl
namespace Go.Pv.Ip
abbrev Qi : Int := 1073741789
/-- A polynomial's value. -/
def ev : List Int → Int → Int
  | [], _ => 0
  | c :: l, x => c + x * ev l x
/-- Alike modulo the prime. -/
def Cg (a b : Int) : Prop := a % Qi = b % Qi
theorem Cg.refl (a : Int) : Cg a a := rfl
theorem Cg.symm {a b : Int} (h : Cg a b) : Cg b a := Eq.symm h
theorem Cg.trans {a b c : Int} (h : Cg a b) (k : Cg b c) : Cg a c := Eq.trans h k
theorem Cg.of_eq {a b : Int} (h : a = b) : Cg a b := h ▸ rfl
theorem Cg.mod (a : Int) : Cg (a % Qi) a := Int.emod_emod_of_dvd a (Int.dvd_refl Qi)
theorem Cg.add {a b c d : Int} (h : Cg a b) (k : Cg c d) : Cg (a + c) (b + d) := by
  unfold Cg at *
  rw [Int.add_emod, h, k, ← Int.add_emod]
theorem Cg.mul {a b c d : Int} (h : Cg a b) (k : Cg c d) : Cg (a * c) (b * d) := by
  unfold Cg at *
  rw [Int.mul_emod, h, k, ← Int.mul_emod]
theorem Cg.addQ (a b : Int) : Cg (a + b * Qi) a := Int.add_mul_emod_self_right a b Qi
theorem mod_in (a : Int) : 0 ≤ a % Qi ∧ a % Qi < Qi := ⟨Int.emod_nonneg _ (by decide), Int.emod_lt_of_pos _ (by decide)⟩
theorem Cg.eq {a b : Int} (h : Cg a b) (ha : 0 ≤ a) (ha2 : a < Qi) (hb : 0 ≤ b) (hb2 : b < Qi) : a = b := by
  unfold Cg at h
  rwa [Int.emod_eq_of_lt ha ha2, Int.emod_eq_of_lt hb hb2] at h
theorem ev_append : ∀ (l m : List Int) (x : Int), ev (l ++ m) x = ev l x + x ^ l.length * ev m x
  | [], m, x => by simp [ev]
  | c :: l, m, x => by
    simp only [List.cons_append, ev, List.length_cons]
    rw [ev_append l m x, Int.pow_succ, Int.mul_add, Int.add_assoc]
    congr 2
    rw [← Int.mul_assoc, Int.mul_comm x (x ^ l.length)]
theorem ev_snoc (l : List Int) (c x : Int) : ev (l ++ [c]) x = ev l x + x ^ l.length * c := by
  rw [ev_append]; simp [ev]
theorem ev_zeros : ∀ (n : Nat) (x : Int), ev (List.replicate n 0) x = 0
  | 0, _ => rfl
  | n + 1, x => by simp only [List.replicate_succ, ev, ev_zeros n x]; simp
theorem ev_set : ∀ (l : List Int) (i : Nat) (v x : Int), i < l.length → ev (l.set i v) x = ev l x + x ^ i * (v - l.getD i 0)
  | [], _, _, _, h => by simp at h
  | c :: l, 0, v, x, _ => by
    simp only [List.set_cons_zero, ev, List.getD_cons_zero, Int.pow_zero]
    omega
  | c :: l, i + 1, v, x, h => by
    simp only [List.set_cons_succ, ev, List.getD_cons_succ]
    rw [ev_set l i v x (by simpa using h), Int.pow_succ, Int.mul_add, Int.mul_assoc, Int.mul_comm (x ^ i) (x * _), Int.mul_assoc, Int.mul_comm (v - _) (x ^ i)]
    omega
/-- A coefficient that is read, changed, reduced. -/
theorem ev_bump (l : List Int) (i : Nat) (d x : Int) (h : i < l.length) : Cg (ev (l.set i ((l.getD i 0 + d) % Qi)) x) (ev l x + x ^ i * d) := by
  rw [ev_set l i _ x h]
  refine Cg.add (.refl _) (Cg.mul (.refl _) ?_)
  have := Cg.add (Cg.mod (l.getD i 0 + d)) (.refl (-(l.getD i 0)))
  exact this.trans (.of_eq (by omega))
/-- Multiply by x - X: so many coefficients are done. -/
def nextL (poly : List Int) (X : Int) : Nat → List Int
  | 0 => List.replicate (poly.length + 1) 0
  | j + 1 => ((nextL poly X j).set (j + 1) (((nextL poly X j).getD (j + 1) 0 + poly.getD j 0) % Qi)).set j ((((nextL poly X j).set (j + 1) (((nextL poly X j).getD (j + 1) 0 + poly.getD j 0) % Qi)).getD j 0 + poly.getD j 0 * (Qi - X)) % Qi)
theorem nextL_len (poly : List Int) (X : Int) : ∀ j, (nextL poly X j).length = poly.length + 1
  | 0 => by simp [nextL]
  | j + 1 => by simp [nextL, nextL_len poly X j]
theorem nextL_ev (poly : List Int) (X x : Int) : ∀ j, j ≤ poly.length → Cg (ev (nextL poly X j) x) (ev (poly.take j) x * (x - X))
  | 0, _ => by rw [nextL, ev_zeros, List.take_zero]; simp [ev, Cg]
  | j + 1, h => by
    have ih := nextL_ev poly X x j (by omega)
    rw [nextL]
    have hl := nextL_len poly X j
    refine (ev_bump _ j _ x (by simp; omega)).trans ?_
    refine (Cg.add (ev_bump _ (j + 1) _ x (by omega)) (.refl _)).trans ?_
    refine (Cg.add (Cg.add ih (.refl _)) (.refl _)).trans ?_
    have ht : poly.take (j + 1) = poly.take j ++ [poly.getD j 0] := by
      rw [List.take_succ_eq_append_getElem (by omega), List.getD_eq_getElem?_getD, List.getElem?_eq_getElem (by omega)]; rfl
    rw [ht, ev_snoc, List.length_take, Nat.min_eq_left (by omega)]
    generalize poly.getD j 0 = c
    generalize ev (poly.take j) x = e
    generalize hp : x ^ j = p
    have hp1 : x ^ (j + 1) = p * x := by rw [Int.pow_succ, hp]
    rw [hp1]
    refine Cg.trans (.of_eq ?_) (Cg.addQ _ (p * c))
    simp only [Int.mul_sub, Int.sub_mul, Int.add_mul, Int.mul_add]
    have e1 : p * x * c = p * c * x := by rw [Int.mul_assoc, Int.mul_comm x c, ← Int.mul_assoc]
    have e2 : p * (c * Qi) = p * c * Qi := by rw [Int.mul_assoc]
    have e3 : p * (c * X) = p * c * X := by rw [Int.mul_assoc]
    rw [e1, e2, e3]
    omega
theorem in_set {l : List Int} (hl : ∀ c ∈ l, 0 ≤ c ∧ c < Qi) (i : Nat) (a : Int) : ∀ c ∈ l.set i (a % Qi), 0 ≤ c ∧ c < Qi := by
  intro c hc
  rcases List.mem_or_eq_of_mem_set hc with h | h
  · exact hl c h
  · subst h; exact mod_in a
theorem nextL_in (poly : List Int) (X : Int) : ∀ j, ∀ c ∈ nextL poly X j, 0 ≤ c ∧ c < Qi
  | 0 => by intro c hc; rw [nextL] at hc; obtain ⟨-, rfl⟩ := List.mem_replicate.1 hc; decide
  | j + 1 => by rw [nextL]; exact in_set (in_set (nextL_in poly X j) _ _) _ _
/-- Add a multiple: so many coefficients are done. -/
def addS (out poly : List Int) (s : Int) : Nat → List Int
  | 0 => out
  | j + 1 => (addS out poly s j).set j (((addS out poly s j).getD j 0 + poly.getD j 0 * s) % Qi)
theorem addS_len (out poly : List Int) (s : Int) : ∀ j, (addS out poly s j).length = out.length
  | 0 => rfl
  | j + 1 => by simp [addS, addS_len out poly s j]
theorem addS_ev (out poly : List Int) (s x : Int) : ∀ j, j ≤ out.length → j ≤ poly.length → Cg (ev (addS out poly s j) x) (ev out x + ev (poly.take j) x * s)
  | 0, _, _ => by simp [addS, ev, Cg]
  | j + 1, h, h2 => by
    have ih := addS_ev out poly s x j (by omega) (by omega)
    rw [addS]
    refine (ev_bump _ j _ x (by rw [addS_len]; omega)).trans ?_
    refine (Cg.add ih (.refl _)).trans ?_
    have ht : poly.take (j + 1) = poly.take j ++ [poly.getD j 0] := by
      rw [List.take_succ_eq_append_getElem (by omega), List.getD_eq_getElem?_getD, List.getElem?_eq_getElem (by omega)]; rfl
    rw [ht, ev_snoc, List.length_take, Nat.min_eq_left (by omega)]
    refine .of_eq ?_
    rw [Int.add_mul, Int.add_assoc, Int.mul_assoc]
theorem addS_in (out poly : List Int) (s : Int) (ho : ∀ c ∈ out, 0 ≤ c ∧ c < Qi) : ∀ j, ∀ c ∈ addS out poly s j, 0 ≤ c ∧ c < Qi
  | 0 => ho
  | j + 1 => by rw [addS]; exact in_set (addS_in out poly s ho j) _ _
/-- The law's inverse. -/
def invGo : Nat → Int → Int → Int → Int
  | 0, c, _, _ => c
  | f + 1, c, n, k => if k > 0 then invGo f (if k % 2 = 1 then c * n % Qi else c) (n * n % Qi) (k / 2) else c
def invF (n : Int) : Int := invGo 31 1 n (Qi - 2)
theorem invGo_in : ∀ (f : Nat) (c n k : Int), 0 ≤ c → c < Qi → 0 ≤ invGo f c n k ∧ invGo f c n k < Qi
  | 0, c, n, k, h, h2 => ⟨h, h2⟩
  | f + 1, c, n, k, h, h2 => by
    rw [invGo]
    split
    · split
      · have := mod_in (c * n)
        exact invGo_in f _ _ _ this.1 this.2
      · exact invGo_in f _ _ _ h h2
    · exact ⟨h, h2⟩
theorem invF_in (n : Int) : 0 ≤ invF n ∧ invF n < Qi := invGo_in _ _ _ _ (by decide) (by decide)
theorem inv_small : ∀ d : Nat, d < 13 → d ≠ 6 → invF (((d : Int) - 6 + Qi) % Qi) * ((d : Int) - 6) % Qi = 1 := by decide +kernel
theorem inv_ok {a b : Int} (ha : 0 ≤ a) (ha2 : a ≤ 6) (hb : 0 ≤ b) (hb2 : b ≤ 6) (hne : a ≠ b) : Cg (invF ((a - b + Qi) % Qi) * (a - b)) 1 := by
  obtain ⟨d, hd⟩ : ∃ d : Nat, (d : Int) = a - b + 6 := ⟨(a - b + 6).toNat, Int.toNat_of_nonneg (by omega)⟩
  have h := inv_small d (by omega) (by omega)
  have e : (d : Int) - 6 = a - b := by omega
  rw [e] at h
  show _ % Qi = 1 % Qi
  rw [h]; rfl
/-! The polynomial through points. -/
def inner (pts : List (Int × Int)) (i : Nat) : Nat → List Int × Int
  | 0 => ([1], (pts.getD i (0, 0)).2)
  | k + 1 => if k = i then inner pts i k else (nextL (inner pts i k).1 (pts.getD k (0, 0)).1 (inner pts i k).1.length, (inner pts i k).2 * invF (((pts.getD i (0, 0)).1 - (pts.getD k (0, 0)).1 + Qi) % Qi) % Qi)
def outer (pts : List (Int × Int)) : Nat → List Int
  | 0 => List.replicate pts.length 0
  | i + 1 => addS (outer pts i) (inner pts i pts.length).1 (inner pts i pts.length).2 (inner pts i pts.length).1.length
def through (pts : List (Int × Int)) : List Int := outer pts pts.length
theorem inner_len (pts : List (Int × Int)) (i : Nat) : ∀ k, (inner pts i k).1.length = if k ≤ i then k + 1 else k
  | 0 => by simp [inner]
  | k + 1 => by
    have ih := inner_len pts i k
    rw [inner]
    split
    · rename_i h
      subst h
      rw [ih, if_pos (Nat.le_refl _), if_neg (by omega)]
    · rename_i h
      simp only [nextL_len]
      rw [ih]
      split <;> split <;> omega
theorem inner_full {pts : List (Int × Int)} {i : Nat} (h : i < pts.length) : (inner pts i pts.length).1.length = pts.length := by
  rw [inner_len, if_neg (by omega)]
theorem outer_len (pts : List (Int × Int)) : ∀ i, (outer pts i).length = pts.length
  | 0 => by simp [outer]
  | i + 1 => by rw [outer, addS_len, outer_len pts i]
theorem outer_in (pts : List (Int × Int)) : ∀ i, ∀ c ∈ outer pts i, 0 ≤ c ∧ c < Qi
  | 0 => by intro c hc; rw [outer] at hc; obtain ⟨-, rfl⟩ := List.mem_replicate.1 hc; decide
  | i + 1 => by rw [outer]; exact addS_in _ _ _ (outer_in pts i) _
theorem inner_in {pts : List (Int × Int)} {i : Nat} (hy : 0 ≤ (pts.getD i (0, 0)).2 ∧ (pts.getD i (0, 0)).2 < Qi) : ∀ k, (∀ c ∈ (inner pts i k).1, 0 ≤ c ∧ c < Qi) ∧ 0 ≤ (inner pts i k).2 ∧ (inner pts i k).2 < Qi
  | 0 => ⟨by intro c hc; simp [inner] at hc; subst hc; decide, hy⟩
  | k + 1 => by
    have ih := inner_in hy k
    rw [inner]
    split
    · exact ih
    · exact ⟨nextL_in _ _ _, mod_in _⟩
/-- The product of all x - X but one. -/
def prodX (pts : List (Int × Int)) (i : Nat) (x : Int) : Nat → Int
  | 0 => 1
  | k + 1 => if k = i then prodX pts i x k else prodX pts i x k * (x - (pts.getD k (0, 0)).1)
theorem inner_ev (pts : List (Int × Int)) (i : Nat) (x : Int) : ∀ k, Cg (ev (inner pts i k).1 x) (prodX pts i x k)
  | 0 => by simp [inner, prodX, ev, Cg]
  | k + 1 => by
    have ih := inner_ev pts i x k
    rw [inner, prodX]
    split
    · exact ih
    · simp only
      have h := nextL_ev (inner pts i k).1 (pts.getD k (0, 0)).1 x (inner pts i k).1.length (Nat.le_refl _)
      rw [List.take_length] at h
      exact h.trans (Cg.mul ih (.refl _))
/-- Points with places 0 to 6, all different. -/
structure Good (pts : List (Int × Int)) : Prop where
  x : ∀ i, i < pts.length → 0 ≤ (pts.getD i (0, 0)).1 ∧ (pts.getD i (0, 0)).1 ≤ 6
  ne : ∀ i k, i < pts.length → k < pts.length → i ≠ k → (pts.getD i (0, 0)).1 ≠ (pts.getD k (0, 0)).1
  y : ∀ i, i < pts.length → 0 ≤ (pts.getD i (0, 0)).2 ∧ (pts.getD i (0, 0)).2 < Qi
theorem inner_scale {pts : List (Int × Int)} (hg : Good pts) {i : Nat} (hi : i < pts.length) : ∀ k, k ≤ pts.length → Cg ((inner pts i k).2 * prodX pts i (pts.getD i (0, 0)).1 k) (pts.getD i (0, 0)).2
  | 0, _ => by simp [inner, prodX, Cg]
  | k + 1, hk => by
    have ih := inner_scale hg hi k (by omega)
    rw [inner, prodX]
    split
    · exact ih
    · rename_i hne
      simp only
      have h1 := inv_ok (hg.x i hi).1 (hg.x i hi).2 (hg.x k (by omega)).1 (hg.x k (by omega)).2 (hg.ne i k hi (by omega) (fun e => hne e.symm))
      generalize (pts.getD i (0, 0)).1 = a at *
      generalize (pts.getD k (0, 0)).1 = b at *
      generalize invF ((a - b + Qi) % Qi) = v at *
      generalize (inner pts i k).2 = s at *
      generalize prodX pts i a k = p at *
      refine (Cg.mul (Cg.mod (s * v)) (.refl _)).trans ?_
      have e : s * v * (p * (a - b)) = s * p * (v * (a - b)) := by
        rw [Int.mul_assoc, Int.mul_assoc, ← Int.mul_assoc v p, Int.mul_comm v p, Int.mul_assoc p v]
      refine (Cg.of_eq e).trans ((Cg.mul ih h1).trans (.of_eq (Int.mul_one _)))
theorem prodX_zero {pts : List (Int × Int)} {i m : Nat} (hne : m ≠ i) : ∀ k, m < k → prodX pts i (pts.getD m (0, 0)).1 k = 0
  | 0, h => by omega
  | k + 1, h => by
    rw [prodX]
    by_cases hm : m = k
    · subst hm
      rw [if_neg hne, Int.sub_self, Int.mul_zero]
    · have := prodX_zero (pts := pts) hne k (by omega)
      split
      · exact this
      · rw [this, Int.zero_mul]
theorem outer_ev {pts : List (Int × Int)} (hg : Good pts) {m : Nat} (hm : m < pts.length) : ∀ i, i ≤ pts.length → Cg (ev (outer pts i) (pts.getD m (0, 0)).1) (if m < i then (pts.getD m (0, 0)).2 else 0)
  | 0, _ => by rw [outer, ev_zeros, if_neg (by omega)]; rfl
  | i + 1, hi => by
    have ih := outer_ev hg hm i (by omega)
    rw [outer]
    have hl := inner_full (pts := pts) (i := i) (by omega)
    have h := addS_ev (outer pts i) (inner pts i pts.length).1 (inner pts i pts.length).2 (pts.getD m (0, 0)).1 (inner pts i pts.length).1.length (by rw [outer_len, hl]; omega) (Nat.le_refl _)
    rw [List.take_length] at h
    refine h.trans ((Cg.add ih (Cg.mul (inner_ev pts i _ pts.length) (.refl _))).trans ?_)
    by_cases hmi : m = i
    · subst hmi
      rw [if_neg (by omega), if_pos (by omega), Int.zero_add, Int.mul_comm]
      exact inner_scale hg hm pts.length (Nat.le_refl _)
    · rw [prodX_zero hmi pts.length hm, Int.zero_mul, Int.add_zero]
      by_cases h1 : m < i
      · rw [if_pos h1, if_pos (by omega)]; exact .refl _
      · rw [if_neg h1, if_neg (by omega)]; exact .refl _
theorem through_ev {pts : List (Int × Int)} (hg : Good pts) {m : Nat} (hm : m < pts.length) : ev (through pts) (pts.getD m (0, 0)).1 % Qi = (pts.getD m (0, 0)).2 := by
  have h := outer_ev hg hm pts.length (Nat.le_refl _)
  rw [if_pos hm] at h
  show ev (outer pts pts.length) _ % Qi = _
  rw [show ev (outer pts pts.length) (pts.getD m (0, 0)).1 % Qi = (pts.getD m (0, 0)).2 % Qi from h, Int.emod_eq_of_lt (hg.y m hm).1 (hg.y m hm).2]
end Go.Pv.Ip
