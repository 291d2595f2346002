/- Digits: lists of digits of a base, and what they are as numbers. -/
import Derived.Test.YtgjgcflgjpigpaaLFr
namespace Go.Pv
abbrev BB : Int := 1073741824
def dv : List Int → Int
  | [] => 0
  | d :: l => d + BB * dv l
/-- Digits, the least significant one first. -/
def dOk (l : List Int) : Prop := ∀ d ∈ l, 0 ≤ d ∧ d < BB
def digs (n : Nat) : List Int := if h : n = 0 then [] else ((n % 1073741824 : Nat) : Int) :: digs (n / 1073741824)
termination_by n
decreasing_by exact Nat.div_lt_self (Nat.pos_of_ne_zero h) (by omega)
theorem digs_zero : digs 0 = [] := by rw [digs]; simp
theorem digs_pos {n : Nat} (h : n ≠ 0) : digs n = ((n % 1073741824 : Nat) : Int) :: digs (n / 1073741824) := by rw [digs]; simp [h]
theorem digs_one {n : Nat} (h : n ≠ 0) (h2 : n < 1073741824) : digs n = [(n : Int)] := by
  rw [digs_pos h, Nat.mod_eq_of_lt h2, Nat.div_eq_of_lt h2, digs_zero]
@[simp] theorem dv_nil : dv [] = 0 := rfl
@[simp] theorem dv_cons (d : Int) (l : List Int) : dv (d :: l) = d + BB * dv l := rfl
theorem dv_digs (n : Nat) : dv (digs n) = n := by
  induction n using Nat.strongRecOn with
  | _ n ih =>
    by_cases h : n = 0
    · subst h; rw [digs_zero]; rfl
    · rw [digs_pos h, dv_cons, ih _ (Nat.div_lt_self (Nat.pos_of_ne_zero h) (by omega))]
      unfold BB
      omega
theorem digs_ok (n : Nat) : dOk (digs n) := by
  induction n using Nat.strongRecOn with
  | _ n ih =>
    by_cases h : n = 0
    · subst h; rw [digs_zero]; intro d hd; simp at hd
    · rw [digs_pos h]
      intro d hd
      rcases List.mem_cons.1 hd with rfl | hd
      · unfold BB; omega
      · exact ih _ (Nat.div_lt_self (Nat.pos_of_ne_zero h) (by omega)) d hd
theorem digs_inj {n m : Nat} (h : digs n = digs m) : n = m := by
  have := congrArg dv h
  rw [dv_digs, dv_digs] at this
  omega
@[simp] theorem digs_nil {n : Nat} : digs n = [] ↔ n = 0 := by
  constructor
  · intro h
    by_cases hn : n = 0
    · exact hn
    · rw [digs_pos hn] at h; cases h
  · rintro rfl; exact digs_zero
theorem dOk_nil : dOk [] := fun d hd => by simp at hd
theorem dOk_cons {d : Int} {l : List Int} : dOk (d :: l) ↔ (0 ≤ d ∧ d < BB) ∧ dOk l := by
  unfold dOk
  simp
theorem dOk_append {l m : List Int} : dOk (l ++ m) ↔ dOk l ∧ dOk m := by
  unfold dOk
  constructor
  · intro h; exact ⟨fun d hd => h d (by simp [hd]), fun d hd => h d (by simp [hd])⟩
  · rintro ⟨h1, h2⟩ d hd
    rcases List.mem_append.1 hd with hd | hd
    · exact h1 d hd
    · exact h2 d hd
theorem dv_nonneg {l : List Int} (h : dOk l) : 0 ≤ dv l := by
  induction l with
  | nil => exact Int.le_refl 0
  | cons d l ih =>
    have h' := dOk_cons.1 h
    have := ih h'.2
    rw [dv_cons]
    unfold BB at *
    omega
abbrev PB (k : Nat) : Int := BB ^ k
theorem PB_pos (k : Nat) : 0 < PB k := Int.pow_pos (by decide)
theorem PB_succ (k : Nat) : PB (k + 1) = BB * PB k := by unfold PB; rw [Int.pow_succ, Int.mul_comm]
theorem PB_zero : PB 0 = 1 := rfl
theorem PB_add (j k : Nat) : PB (j + k) = PB j * PB k := Int.pow_add ..
theorem dv_lt {l : List Int} (h : dOk l) : dv l < PB l.length := by
  induction l with
  | nil => decide
  | cons d l ih =>
    have h' := dOk_cons.1 h
    have := ih h'.2
    rw [dv_cons, List.length_cons, PB_succ]
    unfold BB at *
    omega
theorem dv_append (l m : List Int) : dv (l ++ m) = dv l + PB l.length * dv m := by
  induction l with
  | nil => simp
  | cons d l ih =>
    rw [List.cons_append, dv_cons, ih, dv_cons, List.length_cons, PB_succ, Int.mul_add, Int.mul_assoc]
    omega
theorem dv_snoc (l : List Int) (d : Int) : dv (l ++ [d]) = dv l + PB l.length * d := by
  rw [dv_append]; simp
theorem dv_zeros (n : Nat) : dv (List.replicate n 0) = 0 := by
  induction n with
  | zero => rfl
  | succ n ih => rw [List.replicate_succ, dv_cons, ih]; rfl
/-- Without zeros at the end. -/
def trimD (l : List Int) : List Int := l.take (l.length - (l.reverse.takeWhile (· == 0)).length)
theorem trimD_snoc0 (l : List Int) : trimD (l ++ [0]) = trimD l := by
  unfold trimD
  have hle : (l.reverse.takeWhile (· == 0)).length ≤ l.length := by
    have := (List.takeWhile_prefix (l := l.reverse) (· == (0 : Int))).length_le
    simpa using this
  simp only [List.reverse_append, List.reverse_cons, List.reverse_nil, List.nil_append, List.singleton_append, List.length_append, List.length_cons, List.length_nil]
  rw [List.takeWhile_cons_of_pos (by decide), List.length_cons]
  rw [show l.length + (0 + 1) - ((l.reverse.takeWhile (· == 0)).length + 1) = l.length - (l.reverse.takeWhile (· == 0)).length by omega]
  rw [List.take_append_of_le_length (by omega)]
theorem trimD_snoc {l : List Int} {d : Int} (h : d ≠ 0) : trimD (l ++ [d]) = l ++ [d] := by
  unfold trimD
  simp only [List.reverse_append, List.reverse_cons, List.reverse_nil, List.nil_append, List.singleton_append]
  rw [List.takeWhile_cons_of_neg (by simpa using h)]
  exact List.take_of_length_le (by simp)
/-- Digits without zeros at the end. -/
def Canon (l : List Int) : Prop := dOk l ∧ ∀ m, l ≠ m ++ [0]
theorem canon_digs (n : Nat) : Canon (digs n) := by
  refine ⟨digs_ok n, ?_⟩
  induction n using Nat.strongRecOn with
  | _ n ih =>
    by_cases h : n = 0
    · subst h; rw [digs_zero]; intro m hm; simp at hm
    · rw [digs_pos h]
      intro m hm
      have ih' := ih _ (Nat.div_lt_self (Nat.pos_of_ne_zero h) (by omega : 1 < 1073741824))
      cases m with
      | nil =>
        simp only [List.nil_append, List.cons.injEq, digs_nil] at hm
        omega
      | cons x m =>
        simp only [List.cons_append, List.cons.injEq] at hm
        exact ih' m hm.2
theorem canon_tail {d : Int} {l : List Int} (h : Canon (d :: l)) : Canon l := ⟨(dOk_cons.1 h.1).2, fun m hm => h.2 (d :: m) (by rw [hm]; rfl)⟩
theorem canon_eq {l : List Int} (h : Canon l) : l = digs (dv l).toNat := by
  induction l with
  | nil => rw [dv_nil]; exact digs_zero.symm
  | cons d l ih =>
    have ih' := ih (canon_tail h)
    have hd := (dOk_cons.1 h.1).1
    have hl := dv_nonneg (canon_tail h).1
    have hne : (dv (d :: l)).toNat ≠ 0 := by
      intro h0
      rw [dv_cons] at h0
      unfold BB at *
      have h1 : dv l = 0 := by omega
      have h2 : d = 0 := by omega
      rw [h1] at ih'
      have h3 : l = [] := by rw [ih']; simp [digs_zero]
      subst h3; subst h2
      exact h.2 [] rfl
    rw [digs_pos hne]
    have e1 : (((dv (d :: l)).toNat % 1073741824 : Nat) : Int) = d := by rw [dv_cons] at *; unfold BB at *; omega
    have e2 : (dv (d :: l)).toNat / 1073741824 = (dv l).toNat := by rw [dv_cons] at *; unfold BB at *; omega
    rw [e1, e2, ← ih']
theorem trimD_canon {l : List Int} (h : dOk l) : Canon (trimD l) ∧ dv (trimD l) = dv l := by
  have key : ∀ r : List Int, dOk r.reverse → Canon (trimD r.reverse) ∧ dv (trimD r.reverse) = dv r.reverse := by
    intro r
    induction r with
    | nil => intro _; exact ⟨⟨dOk_nil, fun m hm => by simp [trimD] at hm⟩, rfl⟩
    | cons d r ih =>
      intro hr
      rw [List.reverse_cons] at hr ⊢
      by_cases hd : d = 0
      · subst hd
        rw [trimD_snoc0, dv_snoc, Int.mul_zero, Int.add_zero]
        exact ih (dOk_append.1 hr).1
      · rw [trimD_snoc hd]
        exact ⟨⟨hr, fun m hm => by have := List.append_inj' hm rfl; simp at this; exact hd this.2⟩, rfl⟩
  have := key l.reverse (by simpa using h)
  simpa using this
theorem trimD_eq {l : List Int} (h : dOk l) {n : Nat} (hn : dv l = n) : trimD l = digs n := by
  obtain ⟨h1, h2⟩ := trimD_canon h
  rw [canon_eq h1, h2, hn]
  rfl
theorem trimD_digs (n : Nat) : trimD (digs n) = digs n := trimD_eq (digs_ok n) (dv_digs n)
theorem digs_len_lt (n : Nat) : (n : Int) < PB (digs n).length := by rw [← dv_digs n]; exact dv_lt (digs_ok n)
theorem digs_len_ge {n : Nat} (h : n ≠ 0) : PB ((digs n).length - 1) ≤ n := by
  induction n using Nat.strongRecOn with
  | _ n ih =>
    rw [digs_pos h, List.length_cons, Nat.add_sub_cancel]
    by_cases h1 : n / 1073741824 = 0
    · rw [h1, digs_zero]
      simp; omega
    · have := ih _ (Nat.div_lt_self (Nat.pos_of_ne_zero h) (by omega)) h1
      have hl : (digs (n / 1073741824)).length ≠ 0 := by
        intro e
        exact h1 (digs_nil.1 (List.length_eq_zero_iff.1 e))
      have e : (digs (n / 1073741824)).length = (digs (n / 1073741824)).length - 1 + 1 := by omega
      rw [e, PB_succ]
      unfold BB
      omega
theorem PB_mono {j k : Nat} (h : j ≤ k) : PB j ≤ PB k := by
  obtain ⟨i, rfl⟩ := Nat.exists_eq_add_of_le h
  rw [PB_add]
  have h1 := PB_pos j
  have h2 := PB_pos i
  calc PB j = PB j * 1 := by rw [Int.mul_one]
    _ ≤ PB j * PB i := Int.mul_le_mul_of_nonneg_left (by omega) (by omega)
theorem digs_len_le {n k : Nat} : (digs n).length ≤ k ↔ (n : Int) < PB k := by
  constructor
  · intro h
    exact Int.lt_of_lt_of_le (digs_len_lt n) (PB_mono h)
  · intro h
    by_cases hn : n = 0
    · subst hn; simp [digs_zero]
    · by_cases hk : (digs n).length ≤ k
      · exact hk
      · have h1 := digs_len_ge hn
        have h2 := PB_mono (show k ≤ (digs n).length - 1 by omega)
        omega
theorem digs_len_mono {n m : Nat} (h : n ≤ m) : (digs n).length ≤ (digs m).length := digs_len_le.2 (Int.lt_of_le_of_lt (by omega) (digs_len_lt m))
theorem dv_take_succ {l : List Int} {i : Nat} (h : i < l.length) : dv (l.take (i + 1)) = dv (l.take i) + PB i * l[i] := by
  rw [List.take_succ_eq_append_getElem h, dv_snoc, List.length_take, Nat.min_eq_left (by omega)]
theorem dv_split (l : List Int) (i : Nat) (h : i ≤ l.length) : dv l = dv (l.take i) + PB i * dv (l.drop i) := by
  conv => lhs; rw [← List.take_append_drop i l]
  rw [dv_append, List.length_take, Nat.min_eq_left h]
end Go.Pv
/- Bits of whole numbers, as Go reckons them. -/
namespace Go.Pv
theorem ofInt_toNat (n : Nat) (s : Int) : (BitVec.ofInt n s).toNat = (s % (2 ^ n : Nat)).toNat := by
  rw [BitVec.toNat_ofInt]
/-- Digits behind digits. -/
theorem or_low {x u : Int} (hx : 0 ≤ x) (hu : 0 ≤ u) (hu2 : u < 1073741824) (h : x * 1073741824 + u ≤ 9223372036854775807) :
    IntKind.i64.wrap (BitVec.ofInt IntKind.i64.bits (x * 1073741824) ||| BitVec.ofInt IntKind.i64.bits u).toNat = x * 1073741824 + u := by
  have e : (BitVec.ofInt IntKind.i64.bits (x * 1073741824) ||| BitVec.ofInt IntKind.i64.bits u).toNat = x.toNat * 2 ^ 30 + u.toNat := by
    show (BitVec.ofInt 64 (x * 1073741824) ||| BitVec.ofInt 64 u).toNat = _
    rw [BitVec.toNat_or, ofInt_toNat, ofInt_toNat]
    have h1 : ((x * 1073741824) % ((2 ^ 64 : Nat) : Int)).toNat = 2 ^ 30 * x.toNat := by omega
    have h2 : (u % ((2 ^ 64 : Nat) : Int)).toNat = u.toNat := by omega
    rw [h1, h2, ← Nat.two_pow_add_eq_or_of_lt (by omega), Nat.mul_comm]
  rw [e]
  have e2 : ((x.toNat * 2 ^ 30 + u.toNat : Nat) : Int) = x * 1073741824 + u := by omega
  rw [e2]
  exact wrap_in (by omega) (by omega)
theorem shr30 (s : Int) : s.fdiv (2 ^ min (Int.toNat 30) IntKind.i64.bits) = s / 1073741824 := by
  have e : (2 : Int) ^ min (Int.toNat 30) IntKind.i64.bits = 1073741824 := rfl
  rw [e, Int.fdiv_eq_ediv_of_nonneg _ (by omega)]
theorem shl30 {x : Int} (h0 : -8589934592 ≤ x) (h : x ≤ 8589934591) : IntKind.i64.wrap (x * 2 ^ min (Int.toNat 30) IntKind.i64.bits) = x * 1073741824 := by
  have e : (2 : Int) ^ min (Int.toNat 30) IntKind.i64.bits = 1073741824 := rfl
  rw [e]
  exact wrap_in (by omega) (by omega)
theorem and_bits (a : Int) (n : Nat) (hn : n ≤ 62) : (BitVec.ofInt 64 a &&& BitVec.ofInt 64 ((2 ^ n - 1 : Nat) : Int)).toNat = (a % ((2 ^ n : Nat) : Int)).toNat := by
  have hp : 2 ^ n ≤ 2 ^ 62 := Nat.pow_le_pow_right (by omega) hn
  have h0 : 0 < 2 ^ n := Nat.pow_pos (by omega)
  rw [BitVec.toNat_and, ofInt_toNat, ofInt_toNat]
  have h1 : (((2 ^ n - 1 : Nat) : Int) % ((2 ^ 64 : Nat) : Int)).toNat = 2 ^ n - 1 := by
    rw [Int.emod_eq_of_lt (by omega) (by omega)]
    omega
  rw [h1, Nat.and_two_pow_sub_one_eq_mod]
  have h2 : ((a % ((2 ^ 64 : Nat) : Int)).toNat : Int) = a % ((2 ^ 64 : Nat) : Int) := Int.toNat_of_nonneg (Int.emod_nonneg _ (by omega))
  have h3 : (((a % ((2 ^ 64 : Nat) : Int)).toNat % 2 ^ n : Nat) : Int) = a % ((2 ^ n : Nat) : Int) := by
    rw [Int.natCast_emod, h2]
    have e : (2 ^ 64 : Nat) = 2 ^ n * 2 ^ (64 - n) := by rw [← Nat.pow_add]; congr 1; omega
    rw [e, Int.natCast_mul]
    exact Int.emod_emod_of_dvd _ (Int.dvd_mul_right _ _)
  omega
section
variable (a : Int) (K : PV → Prop)
@[simp high] theorem and31 : xbin .and (.val (.int .u64 a)) (.val (.int .u64 31)) K = K (.val (.int .u64 (a % 32))) := by
  have h : IntKind.u64.wrap ((BitVec.ofInt 64 a &&& BitVec.ofInt 64 31).toNat : Int) = a % 32 := by
    have := and_bits a 5 (by omega)
    have e : ((2 ^ 5 - 1 : Nat) : Int) = 31 := by decide
    rw [e] at this
    rw [this, u64_in (by omega) (by omega)]
    omega
  rw [bin_and]
  simp only [true_and]
  exact congrArg (fun n => K (.val (.int .u64 n))) h
@[simp high] theorem and30 : xbin .and (.val (.int .i64 a)) (.val (.int .i64 1073741823)) K = K (.val (.int .i64 (a % 1073741824))) := by
  have h : IntKind.i64.wrap ((BitVec.ofInt 64 a &&& BitVec.ofInt 64 1073741823).toNat : Int) = a % 1073741824 := by
    have := and_bits a 30 (by omega)
    have e : ((2 ^ 30 - 1 : Nat) : Int) = 1073741823 := by decide
    rw [e] at this
    rw [this, wrap_in (by omega) (by omega)]
    omega
  rw [bin_and]
  simp only [true_and]
  exact congrArg (fun n => K (.val (.int .i64 n))) h
@[simp high] theorem and30u : xbin .and (.val (.int .u64 a)) (.val (.int .u64 1073741823)) K = K (.val (.int .u64 (a % 1073741824))) := by
  have h : IntKind.u64.wrap ((BitVec.ofInt 64 a &&& BitVec.ofInt 64 1073741823).toNat : Int) = a % 1073741824 := by
    have := and_bits a 30 (by omega)
    have e : ((2 ^ 30 - 1 : Nat) : Int) = 1073741823 := by decide
    rw [e] at this
    rw [this, u64_in (by omega) (by omega)]
    omega
  rw [bin_and]
  simp only [true_and]
  exact congrArg (fun n => K (.val (.int .u64 n))) h
end
end Go.Pv
/- Long division by digits: plain facts. -/
namespace Go.Pv
section
variable {h v1 v2 u2 W vr tr V T g : Int}
/-- A divisor's first two digits, a dividend's first three. -/
structure Kn (h v1 v2 u2 W vr tr V T : Int) : Prop where
  v1a : 536870912 ≤ v1
  v1b : v1 < BB
  v2a : 0 ≤ v2
  v2b : v2 < BB
  u2a : 0 ≤ u2
  u2b : u2 < BB
  Wp : 0 < W
  vra : 0 ≤ vr
  vrb : vr < W
  tra : 0 ≤ tr
  trb : tr < W
  Ve : V = (v1 * BB + v2) * W + vr
  Te : T = (h * BB + u2) * W + tr
  hp : 0 ≤ h
  lt : T < BB * V
theorem Kn.Vpos (k : Kn h v1 v2 u2 W vr tr V T) : 0 < V := by
  have h1 := k.Ve
  have h2 : 0 < (v1 * BB + v2) * W := Int.mul_pos (by have := k.v1a; have := k.v2a; unfold BB; omega) k.Wp
  have := k.vra
  omega
theorem Kn.Tlt (k : Kn h v1 v2 u2 W vr tr V T) : T < (h * BB + u2 + 1) * W := by
  rw [k.Te, Int.add_mul (h * BB + u2) 1 W, Int.one_mul]
  have := k.trb
  omega
theorem Kn.Tge (k : Kn h v1 v2 u2 W vr tr V T) : (h * BB + u2) * W ≤ T := by
  have := k.Te; have := k.tra; omega
theorem Kn.Vge (k : Kn h v1 v2 u2 W vr tr V T) : (v1 * BB + v2) * W ≤ V := by
  have := k.Ve; have := k.vra; omega
theorem Kn.Tnonneg (k : Kn h v1 v2 u2 W vr tr V T) : 0 ≤ T := by
  have h1 := k.Tge
  have h2 : 0 ≤ (h * BB + u2) * W := Int.mul_nonneg (by have := k.hp; have := k.u2a; unfold BB; omega) (by have := k.Wp; omega)
  omega
theorem Kn.hle (k : Kn h v1 v2 u2 W vr tr V T) : h ≤ v1 * BB + v2 := by
  apply Int.not_lt.1
  intro hlt
  have h1 := k.Tge
  have h2 := k.lt
  have hV : V < (v1 * BB + v2 + 1) * W := by
    rw [k.Ve, Int.add_mul (v1 * BB + v2) 1 W, Int.one_mul]
    have := k.vrb
    omega
  have h3 : h * BB ≤ h * BB + u2 := by have := k.u2a; omega
  have h4 : h * BB * W ≤ (h * BB + u2) * W := Int.mul_le_mul_of_nonneg_right h3 (by have := k.Wp; omega)
  have h5 : (v1 * BB + v2 + 1) * W ≤ h * W := Int.mul_le_mul_of_nonneg_right (by omega) (by have := k.Wp; omega)
  have h6 : h * BB * W = BB * (h * W) := by rw [Int.mul_comm h BB, Int.mul_assoc]
  rw [h6] at h4
  generalize h * W = x at *
  generalize (v1 * BB + v2 + 1) * W = y at *
  generalize (h * BB + u2) * W = z at *
  unfold BB at *
  omega
theorem Kn.q_head (k : Kn h v1 v2 u2 W vr tr V T) : T / V ≤ h / v1 := by
  have hv1 : 0 < v1 := by have := k.v1a; omega
  apply Int.le_ediv_of_mul_le hv1
  apply Int.not_lt.1
  intro hlt
  have hq := Int.ediv_mul_le T (show V ≠ 0 by have := k.Vpos; omega)
  have hq0 : 0 ≤ T / V := Int.ediv_nonneg k.Tnonneg (by have := k.Vpos; omega)
  have a1 : v1 * BB * W ≤ V := by
    refine Int.le_trans (Int.mul_le_mul_of_nonneg_right (show v1 * BB ≤ v1 * BB + v2 by have := k.v2a; omega) (by have := k.Wp; omega)) k.Vge
  have a2 : T / V * (v1 * BB * W) ≤ T / V * V := Int.mul_le_mul_of_nonneg_left a1 hq0
  have a3 : T / V * (v1 * BB * W) = T / V * v1 * (BB * W) := by rw [Int.mul_assoc v1 BB W, Int.mul_assoc]
  have hBW : 0 ≤ BB * W := Int.mul_nonneg (by decide) (by have := k.Wp; omega)
  have a4 : (h + 1) * (BB * W) ≤ T / V * v1 * (BB * W) := Int.mul_le_mul_of_nonneg_right (by omega) hBW
  have a5 : (h * BB + u2 + 1) * W ≤ (h * BB + BB) * W := Int.mul_le_mul_of_nonneg_right (by have := k.u2b; omega) (by have := k.Wp; omega)
  have a6 : (h + 1) * (BB * W) = (h * BB + BB) * W := by rw [← Int.mul_assoc, Int.add_mul h 1 BB, Int.one_mul]
  have a7 := k.Tlt
  omega
theorem Kn.q_lt (k : Kn h v1 v2 u2 W vr tr V T) : T / V < BB := Int.ediv_lt_of_lt_mul k.Vpos k.lt
theorem Kn.q_nonneg (k : Kn h v1 v2 u2 W vr tr V T) : 0 ≤ T / V := Int.ediv_nonneg k.Tnonneg (by have := k.Vpos; omega)
/-- The first guess. -/
theorem Kn.start (k : Kn h v1 v2 u2 W vr tr V T) (hg : g = min (h / v1) 1073741823) : T / V ≤ g ∧ g < BB ∧ 0 ≤ g ∧ 0 ≤ h - g * v1 ∧ h - g * v1 < 2147483648 := by
  have h1 := k.q_head
  have h2 := k.q_lt
  have h3 := k.q_nonneg
  have hv1 : 0 < v1 := by have := k.v1a; omega
  have h4 := Int.ediv_mul_le h (show v1 ≠ 0 by omega)
  have h5 : h < (h / v1 + 1) * v1 := Int.lt_ediv_add_one_mul_self h hv1
  rw [Int.add_mul, Int.one_mul] at h5
  have h6 := k.hle
  have hv1b := k.v1b
  have hv2b := k.v2b
  by_cases hc : h / v1 ≤ 1073741823
  · have e : g = h / v1 := by omega
    subst e
    generalize h / v1 * v1 = x at *
    unfold BB at *
    omega
  · have e : g = 1073741823 := by omega
    subst e
    have h7 : 1073741824 * v1 ≤ h / v1 * v1 := Int.mul_le_mul_of_nonneg_right (by omega) (by omega)
    generalize h / v1 * v1 = x at *
    unfold BB at *
    omega
/-- The guess was too great. -/
theorem Kn.less (k : Kn h v1 v2 u2 W vr tr V T) (hq : T / V ≤ g) (hg : g < BB) (hr : 0 ≤ h - g * v1) (ht : (h - g * v1) * BB + u2 < g * v2) (hm : h - g * v1 ≤ 1073741823) :
    T / V ≤ g - 1 ∧ g - 1 < BB ∧ 0 ≤ g - 1 ∧ 0 ≤ h - (g - 1) * v1 ∧ h - (g - 1) * v1 < 2147483648 := by
  have hq0 := k.q_nonneg
  have e1 : (g - 1) * v1 = g * v1 - v1 := by rw [Int.sub_mul, Int.one_mul]
  have key : T / V < g := by
    apply Int.not_le.1
    intro hge
    have a1 : (h * BB + u2 + 1) * W ≤ g * (v1 * BB + v2) * W := by
      refine Int.mul_le_mul_of_nonneg_right ?_ (by have := k.Wp; omega)
      rw [Int.mul_add]
      have : g * (v1 * BB) = g * v1 * BB := by rw [Int.mul_assoc]
      rw [this]
      rw [Int.sub_mul] at ht
      omega
    have a2 : g * ((v1 * BB + v2) * W) ≤ g * V := Int.mul_le_mul_of_nonneg_left k.Vge (by omega)
    have a3 : g * V ≤ T / V * V := Int.mul_le_mul_of_nonneg_right hge (by have := k.Vpos; omega)
    have a4 := Int.ediv_mul_le T (show V ≠ 0 by have := k.Vpos; omega)
    have a5 := k.Tlt
    rw [← Int.mul_assoc] at a2
    omega
  have := k.v1b
  have := k.v1a
  rw [e1]
  unfold BB at *
  omega
/-- The guess is at most one too great. -/
theorem Kn.stop (k : Kn h v1 v2 u2 W vr tr V T) (hq : T / V ≤ g) (hg : g < BB) (hg0 : 0 ≤ g) (ht : g * v2 ≤ (h - g * v1) * BB + u2 ∨ 1073741823 < h - g * v1) : -V ≤ T - g * V ∧ T - g * V < V := by
  have hV := k.Vpos
  have ht2 : g * v2 ≤ (h - g * v1) * BB + u2 := by
    rcases ht with ht | ht
    · exact ht
    · have a1 : g * v2 ≤ 1073741823 * v2 := Int.mul_le_mul_of_nonneg_right (by unfold BB at hg; omega) k.v2a
      have := k.v2b
      have := k.u2a
      generalize h - g * v1 = x at *
      generalize g * v2 = y at *
      unfold BB at *
      omega
  have a1 : g * (v1 * BB + v2) * W ≤ (h * BB + u2) * W := by
    refine Int.mul_le_mul_of_nonneg_right ?_ (by have := k.Wp; omega)
    rw [Int.mul_add]
    have : g * (v1 * BB) = g * v1 * BB := by rw [Int.mul_assoc]
    rw [this]
    rw [Int.sub_mul] at ht2
    omega
  have a2 : g * V = g * (v1 * BB + v2) * W + g * vr := by rw [k.Ve, Int.mul_add, ← Int.mul_assoc]
  have a3 : g * vr ≤ g * W := Int.mul_le_mul_of_nonneg_left (by have := k.vrb; omega) hg0
  have a4 : g * W ≤ (v1 * BB + v2) * W := by
    refine Int.mul_le_mul_of_nonneg_right ?_ (by have := k.Wp; omega)
    have := k.v1a; have := k.v2a
    unfold BB at *
    omega
  have a5 := k.Vge
  have a6 := k.Tge
  have a7 : T < (T / V + 1) * V := Int.lt_ediv_add_one_mul_self T hV
  rw [Int.add_mul, Int.one_mul] at a7
  have a8 : T / V * V ≤ g * V := Int.mul_le_mul_of_nonneg_right hq (by omega)
  constructor
  · omega
  · omega
end
end Go.Pv
/- Whole numbers and rational numbers as they are kept by digits: plain facts. -/
namespace Go.Pv
/-- How many digits a number has. -/
abbrev dl (n : Nat) : Nat := (digs n).length
theorem dl_le {n k : Nat} : dl n ≤ k ↔ n < 1073741824 ^ k := by
  have h := digs_len_le (n := n) (k := k)
  unfold dl
  rw [h]
  have e : PB k = ((1073741824 ^ k : Nat) : Int) := by
    unfold PB BB
    rw [Int.natCast_pow]; rfl
  rw [e]
  omega
theorem dl_mono {n m : Nat} (h : n ≤ m) : dl n ≤ dl m := digs_len_mono h
theorem dl_mul (n m : Nat) : dl (n * m) ≤ dl n + dl m := by
  rw [dl_le, Nat.pow_add]
  have h1 := dl_le.1 (Nat.le_refl (dl n))
  have h2 := dl_le.1 (Nat.le_refl (dl m))
  exact Nat.mul_lt_mul'' h1 h2
theorem dl_zero : dl 0 = 0 := by unfold dl; rw [digs_zero]; rfl
theorem dl_eq_zero {n : Nat} : dl n = 0 ↔ n = 0 := by
  unfold dl
  rw [List.length_eq_zero_iff, digs_nil]
theorem dl_pos {n : Nat} (h : n ≠ 0) : 0 < dl n := by
  have := dl_eq_zero (n := n)
  omega
theorem dl_one {n : Nat} (h : n < 1073741824) : dl n ≤ 1 := dl_le.2 (by simpa using h)
/-- Digits that are right, with a sign. -/
def bigOk (s : Bool) (L : List Int) : Bool := decide (L.length ≤ 2048) && !(L.isEmpty && s) && decide (L.getLast? ≠ some 0) && L.all fun d => decide (0 ≤ d) && decide (d ≤ 1073741823)
theorem bigOk_iff {s : Bool} {L : List Int} : bigOk s L = true ↔ ∃ n : Nat, L = digs n ∧ dl n ≤ 2048 ∧ (n = 0 → s = false) := by
  have hc : ∀ L : List Int, (L.getLast? ≠ some 0 ∧ ∀ d ∈ L, 0 ≤ d ∧ d ≤ 1073741823) ↔ Canon L := by
    intro L
    unfold Canon dOk BB
    constructor
    · rintro ⟨h1, h2⟩
      refine ⟨fun d hd => ⟨(h2 d hd).1, by have := (h2 d hd).2; omega⟩, fun m hm => h1 (by rw [hm]; simp)⟩
    · rintro ⟨h1, h2⟩
      refine ⟨fun h => ?_, fun d hd => ⟨(h1 d hd).1, by have := (h1 d hd).2; omega⟩⟩
      obtain ⟨m, hm⟩ := List.getLast?_eq_some_iff.1 h
      exact h2 m hm
  have h0 : bigOk s L = true ↔ L.length ≤ 2048 ∧ ¬(L = [] ∧ s = true) ∧ Canon L := by
    rw [← hc]
    simp only [bigOk, Bool.and_eq_true, decide_eq_true_eq, Bool.not_eq_true', Bool.and_eq_false_iff, List.isEmpty_eq_false_iff, List.all_eq_true]
    constructor
    · rintro ⟨⟨⟨h1, h2⟩, h3⟩, h4⟩
      refine ⟨h1, ?_, h3, h4⟩
      rintro ⟨h5, h6⟩
      rcases h2 with h2 | h2
      · exact h2 h5
      · rw [h6] at h2; cases h2
    · rintro ⟨h1, h2, h3, h4⟩
      refine ⟨⟨⟨h1, ?_⟩, h3⟩, h4⟩
      by_cases h5 : L = []
      · right
        cases hs : s with
        | false => rfl
        | true => exact absurd ⟨h5, hs⟩ h2
      · exact .inl h5
  rw [h0]
  constructor
  · rintro ⟨h1, h2, h3⟩
    refine ⟨(dv L).toNat, canon_eq h3, by unfold dl; rw [← canon_eq h3]; exact h1, fun h4 => ?_⟩
    have h5 := canon_eq h3
    rw [h4, digs_zero] at h5
    cases hs : s with
    | false => rfl
    | true => exact absurd ⟨h5, hs⟩ h2
  · rintro ⟨n, rfl, h1, h2⟩
    refine ⟨h1, ?_, canon_digs n⟩
    rintro ⟨h3, h4⟩
    rw [h2 (digs_nil.1 h3)] at h4
    cases h4
theorem bigOk_digs {s : Bool} {n : Nat} (h : dl n ≤ 2048) (hs : n = 0 → s = false) : bigOk s (digs n) = true := bigOk_iff.2 ⟨n, rfl, h, hs⟩
/-- A whole number with its sign: cells. -/
def zC (t : Bool) (z : Int) : List PV := [.bool (decide (z < 0)), intLst t (digs z.natAbs)]
/-- A rational number in lowest terms: cells. -/
def rC (t1 t2 : Bool) (q : Rat) : List PV := zC t1 q.num ++ zC t2 q.den
/-- Are numerator and denominator those of a number? -/
def ratOk (s1 : Bool) (L1 : List Int) (s2 : Bool) (L2 : List Int) : Bool := bigOk s1 L1 && bigOk s2 L2 && !s2 && !L2.isEmpty && decide (Nat.gcd (dv L1).toNat (dv L2).toNat = 1)
structure IsRat (s1 : Bool) (L1 : List Int) (s2 : Bool) (L2 : List Int) (q : Rat) : Prop where
  s1 : s1 = decide (q.num < 0)
  L1 : L1 = digs q.num.natAbs
  s2 : s2 = false
  L2 : L2 = digs q.den
  n : dl q.num.natAbs ≤ 2048
  d : dl q.den ≤ 2048
theorem dv_digs_nat (n : Nat) : (dv (digs n)).toNat = n := by rw [dv_digs]; rfl
theorem ratOk_iff {s1 : Bool} {L1 : List Int} {s2 : Bool} {L2 : List Int} : ratOk s1 L1 s2 L2 = true ↔ ∃ q, IsRat s1 L1 s2 L2 q := by
  unfold ratOk
  simp only [Bool.and_eq_true, Bool.not_eq_true', List.isEmpty_eq_false_iff, decide_eq_true_eq]
  constructor
  · rintro ⟨⟨⟨⟨h1, h2⟩, h3⟩, h4⟩, h5⟩
    obtain ⟨n, rfl, h6, h7⟩ := bigOk_iff.1 h1
    obtain ⟨d, rfl, h8, h9⟩ := bigOk_iff.1 h2
    have hd : d ≠ 0 := fun e => h4 (digs_nil.2 e)
    rw [dv_digs_nat, dv_digs_nat] at h5
    have hz : (if s1 then -(n : Int) else n).natAbs = n := by split <;> omega
    refine ⟨⟨if s1 then -(n : Int) else n, d, hd, by rw [hz]; exact h5⟩, ⟨?_, by simp only [hz], h3, rfl, by simp only [hz]; exact h6, h8⟩⟩
    cases s1 with
    | false => simp
    | true =>
      have : n ≠ 0 := fun e => by have := h7 e; cases this
      simp only [if_true]
      symm
      simp only [decide_eq_true_eq]
      omega
  · rintro ⟨q, rfl, rfl, rfl, rfl, h1, h2⟩
    refine ⟨⟨⟨⟨bigOk_digs h1 fun h => ?_, bigOk_digs h2 fun _ => rfl⟩, rfl⟩, fun h => q.den_nz (digs_nil.1 h)⟩, ?_⟩
    · simp only [decide_eq_false_iff_not]; omega
    · rw [dv_digs_nat, dv_digs_nat]; exact q.reduced
theorem IsRat.ok {s1 s2 : Bool} {L1 L2 : List Int} {q : Rat} (h : IsRat s1 L1 s2 L2 q) : ratOk s1 L1 s2 L2 = true := ratOk_iff.2 ⟨q, h⟩
theorem IsRat.cells {s1 s2 : Bool} {L1 L2 : List Int} {q : Rat} (h : IsRat s1 L1 s2 L2 q) (t1 t2 : Bool) : [.bool s1, intLst t1 L1, .bool s2, intLst t2 L2] = rC t1 t2 q := by
  obtain ⟨rfl, rfl, rfl, rfl, -, -⟩ := h
  simp [rC, zC]
/-- Which of two is greater. -/
def cmpZ (a b : Int) : Int := if a < b then -1 else if b < a then 1 else 0
def cmpR (a b : Rat) : Int := if a < b then -1 else if b < a then 1 else 0
theorem cmpR_eq (a b : Rat) : cmpR a b = cmpZ (a.num * b.den) (b.num * a.den) := by
  unfold cmpR cmpZ
  simp only [Rat.lt_iff]
theorem cmpR_le {a b : Rat} : cmpR a b ≤ 0 ↔ a ≤ b := by
  unfold cmpR
  by_cases h : a < b
  · simp only [if_pos h]
    exact ⟨fun _ => Rat.le_of_lt h, fun _ => by omega⟩
  · by_cases h2 : b < a
    · simp only [if_neg h, if_pos h2]
      exact ⟨fun _ => by omega, fun h3 => absurd h2 (Rat.not_lt.2 h3)⟩
    · simp only [if_neg h, if_neg h2]
      exact ⟨fun _ => Rat.not_lt.1 h2, fun _ => by omega⟩
theorem cmpR_lt {a b : Rat} : cmpR a b < 0 ↔ a < b := by
  unfold cmpR
  by_cases h : a < b
  · simp [h]
  · by_cases h2 : b < a
    · simp [if_pos h2, h]
    · simp [if_neg h2, h]
end Go.Pv
/- The chance to miss all wrong sheets: plain facts. -/
namespace Go.Pv
end Go.Pv
/- Orders of n elements, counted: plain facts. -/
namespace Go.Pv
def fact : Nat → Nat
  | 0 => 1
  | n + 1 => (n + 1) * fact n
end Go.Pv
/- Reckoning by digits: plain facts of sums, products and short division. -/
namespace Go.Pv
/-- Digits that are carried. -/
def carD (f : Nat → Int) : Nat → List Int × Int
  | 0 => ([], 0)
  | n + 1 => let p := carD f n; let s := f n + p.2; (p.1 ++ [s % BB], s / BB)
def sumD (f : Nat → Int) : Nat → Int
  | 0 => 0
  | n + 1 => sumD f n + PB n * f n
theorem carD_len (f : Nat → Int) : ∀ n, (carD f n).1.length = n
  | 0 => rfl
  | n + 1 => by simp [carD, carD_len f n]
theorem carD_ok (f : Nat → Int) : ∀ n, dOk (carD f n).1
  | 0 => dOk_nil
  | n + 1 => by
    simp only [carD]
    refine dOk_append.2 ⟨carD_ok f n, fun d hd => ?_⟩
    rw [List.mem_singleton.1 hd]
    exact ⟨Int.emod_nonneg _ (by decide), Int.emod_lt_of_pos _ (by decide)⟩
theorem carD_sum (f : Nat → Int) : ∀ n, dv (carD f n).1 + PB n * (carD f n).2 = sumD f n
  | 0 => rfl
  | n + 1 => by
    simp only [carD, sumD]
    rw [dv_snoc, carD_len, ← carD_sum f n, PB_succ]
    have h := Int.emod_add_mul_ediv (f n + (carD f n).2) BB
    have e : PB n * ((f n + (carD f n).2) % BB) + BB * PB n * ((f n + (carD f n).2) / BB) = PB n * (f n + (carD f n).2) := by
      conv => rhs; rw [← h, Int.mul_add, ← Int.mul_assoc, Int.mul_comm (PB n) BB]
    rw [Int.mul_add] at e
    omega
theorem carD_over {f : Nat → Int} {n : Nat} (h : ∀ i, i < n → -2305843009213693952 ≤ f i ∧ f i ≤ 2305843009213693952) : -4294967296 ≤ (carD f n).2 ∧ (carD f n).2 ≤ 4294967296 := by
  induction n with
  | zero => simp [carD]
  | succ n ih =>
    have h1 := ih fun i hi => h i (by omega)
    have h2 := h n (by omega)
    simp only [carD]
    unfold BB
    omega
theorem carD_digs {f : Nat → Int} {n m : Nat} (hs : sumD f n = m) (hm : (m : Int) < PB n) : trimD (carD f n).1 = digs m := by
  have h1 := carD_sum f n
  have h2 := carD_ok f n
  have h3 := dv_nonneg h2
  have h4 := dv_lt h2
  rw [carD_len] at h4
  have hp := PB_pos n
  refine trimD_eq h2 ?_
  have h0 : (carD f n).2 = 0 := by
    apply Int.le_antisymm
    · apply Int.not_lt.1
      intro h
      have := Int.mul_le_mul_of_nonneg_left (show 1 ≤ (carD f n).2 by omega) (show 0 ≤ PB n by omega)
      omega
    · apply Int.not_lt.1
      intro h
      have := Int.mul_le_mul_of_nonneg_left (show (carD f n).2 ≤ -1 by omega) (show 0 ≤ PB n by omega)
      omega
  rw [h0, Int.mul_zero] at h1
  omega
/-- The digit at a place, or 0. -/
def dAt (l : List Int) (i : Nat) : Int := l.getD i 0
theorem dAt_lt {l : List Int} {i : Nat} (h : i < l.length) : dAt l i = l[i] := by simp [dAt, h]
theorem dAt_ge {l : List Int} {i : Nat} (h : l.length ≤ i) : dAt l i = 0 := by simp [dAt, h]
theorem dAt_ok {l : List Int} (h : dOk l) (i : Nat) : 0 ≤ dAt l i ∧ dAt l i < BB := by
  by_cases hi : i < l.length
  · rw [dAt_lt hi]; exact h _ (List.getElem_mem hi)
  · rw [dAt_ge (by omega)]; decide
theorem sumD_take (l : List Int) : ∀ n, sumD (dAt l) n = dv (l.take n)
  | 0 => rfl
  | n + 1 => by
    rw [sumD, sumD_take l n]
    by_cases h : n < l.length
    · rw [dv_take_succ h, dAt_lt h]
    · rw [dAt_ge (by omega), Int.mul_zero, Int.add_zero, List.take_of_length_le (by omega), List.take_of_length_le (by omega)]
theorem sumD_full {l : List Int} {n : Nat} (h : l.length ≤ n) : sumD (dAt l) n = dv l := by rw [sumD_take, List.take_of_length_le h]
theorem sumD_add (f g : Nat → Int) : ∀ n, sumD (fun i => f i + g i) n = sumD f n + sumD g n
  | 0 => rfl
  | n + 1 => by
    simp only [sumD]; rw [sumD_add f g n, Int.mul_add]; omega
theorem sumD_sub (f g : Nat → Int) : ∀ n, sumD (fun i => f i - g i) n = sumD f n - sumD g n
  | 0 => rfl
  | n + 1 => by
    simp only [sumD]; rw [sumD_sub f g n, Int.mul_sub]; omega
theorem sumD_mul (f : Nat → Int) (c : Int) : ∀ n, sumD (fun i => f i * c) n = sumD f n * c
  | 0 => by simp [sumD]
  | n + 1 => by
    simp only [sumD]; rw [sumD_mul f c n, Int.add_mul, Int.mul_assoc]
/-- A digit is written. -/
theorem dv_set {l : List Int} {i : Nat} (h : i < l.length) (d : Int) : dv (l.set i d) = dv l + PB i * (d - l[i]) := by
  have e1 := dv_split l i (by omega)
  have e2 := dv_split (l.set i d) i (by rw [List.length_set]; omega)
  rw [List.take_set_of_le (by omega)] at e2
  have e3 : (l.set i d).drop i = d :: l.drop (i + 1) := by
    rw [List.drop_eq_getElem_cons (by rw [List.length_set]; exact h), List.getElem_set_self, List.drop_set_of_lt (by omega)]
  have e4 : l.drop i = l[i] :: l.drop (i + 1) := List.drop_eq_getElem_cons h
  rw [e3, dv_cons] at e2
  rw [e4, dv_cons] at e1
  rw [e1, e2, Int.mul_sub, Int.mul_add, Int.mul_add]
  omega
theorem dOk_set {l : List Int} (h : dOk l) (i : Nat) {d : Int} (hd : 0 ≤ d ∧ d < BB) : dOk (l.set i d) := by
  intro x hx
  rcases List.mem_or_eq_of_mem_set hx with hx | rfl
  · exact h x hx
  · exact hd
theorem dOk_zeros (n : Nat) : dOk (List.replicate n 0) := by
  intro d hd
  rw [(List.mem_replicate.1 hd).2]
  decide
theorem dOk_get {l : List Int} (h : dOk l) {i : Nat} (hi : i < l.length) : 0 ≤ l[i] ∧ l[i] < BB := h _ (List.getElem_mem hi)
theorem dOk_take {l : List Int} (h : dOk l) (i : Nat) : dOk (l.take i) := fun d hd => h d (List.mem_of_mem_take hd)
theorem dOk_drop {l : List Int} (h : dOk l) (i : Nat) : dOk (l.drop i) := fun d hd => h d (List.mem_of_mem_drop hd)
/-- From a digit on, downwards. -/
theorem dv_drop_succ {l : List Int} {i : Nat} (h : i < l.length) : dv (l.drop i) = l[i] + BB * dv (l.drop (i + 1)) := by
  rw [List.drop_eq_getElem_cons h, dv_cons]
theorem dv_top_lt {l m : List Int} (hl : dOk l) (hm : dOk m) {i : Nat} (h1 : i < l.length) (h2 : i < m.length) (he : l.drop (i + 1) = m.drop (i + 1)) (hlt : l[i] < m[i]) : dv l < dv m := by
  rw [dv_split l i (by omega), dv_split m i (by omega), dv_drop_succ h1, dv_drop_succ h2, he]
  have a1 := dv_lt (dOk_take hl i)
  have a2 := dv_nonneg (dOk_take hm i)
  rw [List.length_take, Nat.min_eq_left (by omega)] at a1
  have a3 : PB i * (l[i] + 1) ≤ PB i * m[i] := Int.mul_le_mul_of_nonneg_left (by omega) (by have := PB_pos i; omega)
  rw [Int.mul_add, Int.mul_one] at a3
  rw [Int.mul_add, Int.mul_add]
  omega
/-- One step of a short division. -/
theorem short_step {x r d : Int} (hd : 0 < d) (hr0 : 0 ≤ r) (hr : r < d) (hx0 : 0 ≤ x) (hx : x < BB) : 0 ≤ (r * BB + x) / d ∧ (r * BB + x) / d < BB ∧ 0 ≤ (r * BB + x) % d ∧ (r * BB + x) % d < d := by
  have h0 : 0 ≤ r * BB := Int.mul_nonneg hr0 (by decide)
  refine ⟨Int.ediv_nonneg (by omega) (by omega), Int.ediv_lt_of_lt_mul hd ?_, Int.emod_nonneg _ (by omega), Int.emod_lt_of_pos _ hd⟩
  have : (r + 1) * BB ≤ d * BB := Int.mul_le_mul_of_nonneg_right (by omega) (by decide)
  rw [Int.add_mul, Int.one_mul] at this
  rw [Int.mul_comm BB d]
  omega
end Go.Pv
/- Knuth's division: a divisor and the digits under it, as lists. -/
namespace Go.Pv
theorem dv_three {l : List Int} {k : Nat} (hl : l.length = k + 2) : dv l = (l[k + 1] * BB + l[k]) * PB k + dv (l.take k) := by
  rw [dv_split l k (by omega), List.drop_eq_getElem_cons (show k < l.length by omega), List.drop_eq_getElem_cons (show k + 1 < l.length by omega), List.drop_of_length_le (by omega), dv_cons, dv_cons, dv_nil]
  rw [Int.mul_zero, Int.add_zero, Int.mul_comm (PB k), Int.mul_comm BB]
  rw [Int.add_comm l[k]]
  omega
/-- The window: k + 3 digits; the divisor: k + 2 digits. -/
theorem kn_of {V W : List Int} {k : Nat} (hV : V.length = k + 2) (hW : W.length = k + 3) (okV : dOk V) (okW : dOk W) (htop : 536870912 ≤ V[k + 1]) (hlt : dv W < BB * dv V) :
    Kn (W[k + 2] * BB + W[k + 1]) V[k + 1] V[k] W[k] (PB k) (dv (V.take k)) (dv (W.take k)) (dv V) (dv W) := by
  have a1 := dOk_get okV (i := k + 1) (by omega)
  have a2 := dOk_get okV (i := k) (by omega)
  have a3 := dOk_get okW (i := k) (by omega)
  have a4 := dOk_get okW (i := k + 1) (by omega)
  have a5 := dOk_get okW (i := k + 2) (by omega)
  have b1 := dv_lt (dOk_take okV k)
  have b2 := dv_lt (dOk_take okW k)
  rw [List.length_take, Nat.min_eq_left (by omega)] at b1 b2
  refine ⟨htop, a1.2, a2.1, a2.2, a3.1, a3.2, PB_pos k, dv_nonneg (dOk_take okV k), b1, dv_nonneg (dOk_take okW k), b2, dv_three hV, ?_, ?_, hlt⟩
  · rw [dv_split W (k + 1) (by omega), List.drop_eq_getElem_cons (show k + 1 < W.length by omega), List.drop_eq_getElem_cons (show k + 1 + 1 < W.length by omega), List.drop_of_length_le (by omega), dv_cons, dv_cons, dv_nil,
      dv_take_succ (show k < W.length by omega), PB_succ]
    rw [Int.mul_zero, Int.add_zero]
    have e1 : BB * PB k * (W[k + 1] + BB * W[k + 1 + 1]) = (W[k + 2] * BB + W[k + 1]) * BB * PB k := by
      rw [Int.mul_comm BB (W[k + 1 + 1]), Int.add_comm, Int.mul_comm (BB * PB k), Int.mul_assoc]
    rw [e1, Int.add_mul _ W[k], Int.mul_comm (PB k) W[k]]
    omega
  · have : 0 ≤ W[k + 2] * BB := Int.mul_nonneg a5.1 (by decide)
    omega
/-- What is left of the window when the divisor is taken off g times. -/
theorem kn_sub {V D : List Int} {g top : Int} {k : Nat} {f : Nat → Int} (hf : ∀ j, f j = dAt D j - g * dAt V j) (hD : D.length = k) (hV : V.length = k) :
    dv (carD f k).1 + PB k * ((carD f k).2 + top) = dv D + PB k * top - g * dv V := by
  have hf : f = fun j => dAt D j - g * dAt V j := funext hf
  have h1 := carD_sum f k
  have h2 : sumD f k = dv D - g * dv V := by
    rw [hf, sumD_sub, sumD_full (by omega), show (fun i => g * dAt V i) = (fun i => dAt V i * g) by funext i; exact Int.mul_comm .., sumD_mul, sumD_full (by omega), Int.mul_comm]
  rw [Int.mul_add]
  omega
theorem kn_top {V D : List Int} {g top : Int} {k : Nat} {f : Nat → Int} (hf : ∀ j, f j = dAt D j - g * dAt V j) (hD : D.length = k) (hV : V.length = k) (okV : dOk V) (h1 : -dv V ≤ dv D + PB k * top - g * dv V) (h2 : dv D + PB k * top - g * dv V < dv V) :
    ((carD f k).2 + top = 0 ∧ dv (carD f k).1 = dv D + PB k * top - g * dv V) ∨ ((carD f k).2 + top = -1 ∧ dv (carD f k).1 = dv D + PB k * top - g * dv V + PB k ∧ dv D + PB k * top - g * dv V < 0) := by
  have e := kn_sub (g := g) (top := top) hf hD hV
  have ok := carD_ok f k
  have b1 := dv_nonneg ok
  have b2 := dv_lt ok
  rw [carD_len] at b2
  have b3 := dv_lt okV
  rw [hV] at b3
  have hp := PB_pos k
  generalize (carD f k).2 + top = o at *
  have c1 : o < 1 := by
    apply Int.not_le.1
    intro h
    have := Int.mul_le_mul_of_nonneg_left h (show 0 ≤ PB k by omega)
    omega
  have c2 : -2 < o := by
    apply Int.not_le.1
    intro h
    have := Int.mul_le_mul_of_nonneg_left h (show 0 ≤ PB k by omega)
    omega
  by_cases ho : o = 0
  · subst ho
    rw [Int.mul_zero, Int.add_zero] at e
    exact .inl ⟨rfl, e⟩
  · have ho : o = -1 := by omega
    subst ho
    refine .inr ⟨rfl, by omega, by omega⟩
/-- One divisor is given back. -/
theorem kn_back {V D : List Int} {R : Int} {k : Nat} {f : Nat → Int} (hf : ∀ j, f j = dAt D j + dAt V j) (hD : D.length = k) (hV : V.length = k) (h1 : dv D = R + PB k) (h2 : -dv V ≤ R) (h3 : R < 0) (okV : dOk V) :
    (carD f k).2 = 1 ∧ dv (carD f k).1 = R + dv V := by
  have hf : f = fun j => dAt D j + dAt V j := funext hf
  have e := carD_sum f k
  have e2 : sumD f k = dv D + dv V := by
    rw [hf, sumD_add, sumD_full (by omega), sumD_full (by omega)]
  have ok := carD_ok f k
  have b1 := dv_nonneg ok
  have b2 := dv_lt ok
  rw [carD_len] at b2
  have b3 := dv_lt okV
  rw [hV] at b3
  have hp := PB_pos k
  generalize (carD f k).2 = o at *
  have c1 : o < 2 := by
    apply Int.not_le.1
    intro h
    have := Int.mul_le_mul_of_nonneg_left h (show 0 ≤ PB k by omega)
    omega
  have c2 : 0 < o := by
    apply Int.not_le.1
    intro h
    have := Int.mul_le_mul_of_nonneg_left h (show 0 ≤ PB k by omega)
    omega
  have ho : o = 1 := by omega
  subst ho
  exact ⟨rfl, by omega⟩
end Go.Pv
