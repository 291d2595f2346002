/- Digits: lists of digits of a base, and what they are as numbers. -/
import Derived.Test.YtliglilanpfjhaaLFr
namespace Go.Pv
abbrev BB : Int := 1073741824
def dv : List Int → Int
  | [] => 0
  | d :: l => d + BB * dv l
/-- Digits, the least significant one first. -/
def dOk (l : List Int) : Prop := ∀ d ∈ l, 0 ≤ d ∧ d < BB
def digs (n : Nat) : List Int := if h : n = 0 then [] else ((n % 1073741824 : Nat) : Int) :: digs (n / 1073741824)
termination_by n
decreasing_by exact Nat.div_lt_self (Nat.pos_of_ne_zero h) (by omega)
theorem digs_zero : digs 0 = [] := by rw [digs]; simp
theorem digs_pos {n : Nat} (h : n ≠ 0) : digs n = ((n % 1073741824 : Nat) : Int) :: digs (n / 1073741824) := by rw [digs]; simp [h]
theorem digs_one {n : Nat} (h : n ≠ 0) (h2 : n < 1073741824) : digs n = [(n : Int)] := by
  rw [digs_pos h, Nat.mod_eq_of_lt h2, Nat.div_eq_of_lt h2, digs_zero]
@[simp] theorem dv_nil : dv [] = 0 := rfl
@[simp] theorem dv_cons (d : Int) (l : List Int) : dv (d :: l) = d + BB * dv l := rfl
theorem dv_digs (n : Nat) : dv (digs n) = n := by
  induction n using Nat.strongRecOn with
  | _ n ih =>
    by_cases h : n = 0
    · subst h; rw [digs_zero]; rfl
    · rw [digs_pos h, dv_cons, ih _ (Nat.div_lt_self (Nat.pos_of_ne_zero h) (by omega))]
      unfold BB
      omega
theorem digs_ok (n : Nat) : dOk (digs n) := by
  induction n using Nat.strongRecOn with
  | _ n ih =>
    by_cases h : n = 0
    · subst h; rw [digs_zero]; intro d hd; simp at hd
    · rw [digs_pos h]
      intro d hd
      rcases List.mem_cons.1 hd with rfl | hd
      · unfold BB; omega
      · exact ih _ (Nat.div_lt_self (Nat.pos_of_ne_zero h) (by omega)) d hd
theorem digs_inj {n m : Nat} (h : digs n = digs m) : n = m := by
  have := congrArg dv h
  rw [dv_digs, dv_digs] at this
  omega
@[simp] theorem digs_nil {n : Nat} : digs n = [] ↔ n = 0 := by
  constructor
  · intro h
    by_cases hn : n = 0
    · exact hn
    · rw [digs_pos hn] at h; cases h
  · rintro rfl; exact digs_zero
theorem dOk_nil : dOk [] := fun d hd => by simp at hd
theorem dOk_cons {d : Int} {l : List Int} : dOk (d :: l) ↔ (0 ≤ d ∧ d < BB) ∧ dOk l := by
  unfold dOk
  simp
theorem dOk_append {l m : List Int} : dOk (l ++ m) ↔ dOk l ∧ dOk m := by
  unfold dOk
  constructor
  · intro h; exact ⟨fun d hd => h d (by simp [hd]), fun d hd => h d (by simp [hd])⟩
  · rintro ⟨h1, h2⟩ d hd
    rcases List.mem_append.1 hd with hd | hd
    · exact h1 d hd
    · exact h2 d hd
theorem dv_nonneg {l : List Int} (h : dOk l) : 0 ≤ dv l := by
  induction l with
  | nil => exact Int.le_refl 0
  | cons d l ih =>
    have h' := dOk_cons.1 h
    have := ih h'.2
    rw [dv_cons]
    unfold BB at *
    omega
abbrev PB (k : Nat) : Int := BB ^ k
theorem PB_pos (k : Nat) : 0 < PB k := Int.pow_pos (by decide)
theorem PB_succ (k : Nat) : PB (k + 1) = BB * PB k := by unfold PB; rw [Int.pow_succ, Int.mul_comm]
theorem PB_zero : PB 0 = 1 := rfl
theorem PB_add (j k : Nat) : PB (j + k) = PB j * PB k := Int.pow_add ..
theorem dv_lt {l : List Int} (h : dOk l) : dv l < PB l.length := by
  induction l with
  | nil => decide
  | cons d l ih =>
    have h' := dOk_cons.1 h
    have := ih h'.2
    rw [dv_cons, List.length_cons, PB_succ]
    unfold BB at *
    omega
theorem dv_append (l m : List Int) : dv (l ++ m) = dv l + PB l.length * dv m := by
  induction l with
  | nil => simp
  | cons d l ih =>
    rw [List.cons_append, dv_cons, ih, dv_cons, List.length_cons, PB_succ, Int.mul_add, Int.mul_assoc]
    omega
theorem dv_snoc (l : List Int) (d : Int) : dv (l ++ [d]) = dv l + PB l.length * d := by
  rw [dv_append]; simp
theorem dv_zeros (n : Nat) : dv (List.replicate n 0) = 0 := by
  induction n with
  | zero => rfl
  | succ n ih => rw [List.replicate_succ, dv_cons, ih]; rfl
/-- Without zeros at the end. -/
def trimD (l : List Int) : List Int := l.take (l.length - (l.reverse.takeWhile (· == 0)).length)
theorem trimD_nil : trimD [] = [] := rfl
theorem trimD_snoc0 (l : List Int) : trimD (l ++ [0]) = trimD l := by
  unfold trimD
  have hle : (l.reverse.takeWhile (· == 0)).length ≤ l.length := by
    have := (List.takeWhile_prefix (l := l.reverse) (· == (0 : Int))).length_le
    simpa using this
  simp only [List.reverse_append, List.reverse_cons, List.reverse_nil, List.nil_append, List.singleton_append, List.length_append, List.length_cons, List.length_nil]
  rw [List.takeWhile_cons_of_pos (by decide), List.length_cons]
  rw [show l.length + (0 + 1) - ((l.reverse.takeWhile (· == 0)).length + 1) = l.length - (l.reverse.takeWhile (· == 0)).length by omega]
  rw [List.take_append_of_le_length (by omega)]
theorem trimD_snoc {l : List Int} {d : Int} (h : d ≠ 0) : trimD (l ++ [d]) = l ++ [d] := by
  unfold trimD
  simp only [List.reverse_append, List.reverse_cons, List.reverse_nil, List.nil_append, List.singleton_append]
  rw [List.takeWhile_cons_of_neg (by simpa using h)]
  exact List.take_of_length_le (by simp)
/-- Digits without zeros at the end. -/
def Canon (l : List Int) : Prop := dOk l ∧ ∀ m, l ≠ m ++ [0]
theorem canon_digs (n : Nat) : Canon (digs n) := by
  refine ⟨digs_ok n, ?_⟩
  induction n using Nat.strongRecOn with
  | _ n ih =>
    by_cases h : n = 0
    · subst h; rw [digs_zero]; intro m hm; simp at hm
    · rw [digs_pos h]
      intro m hm
      have ih' := ih _ (Nat.div_lt_self (Nat.pos_of_ne_zero h) (by omega : 1 < 1073741824))
      cases m with
      | nil =>
        simp only [List.nil_append, List.cons.injEq, digs_nil] at hm
        omega
      | cons x m =>
        simp only [List.cons_append, List.cons.injEq] at hm
        exact ih' m hm.2
theorem canon_tail {d : Int} {l : List Int} (h : Canon (d :: l)) : Canon l := ⟨(dOk_cons.1 h.1).2, fun m hm => h.2 (d :: m) (by rw [hm]; rfl)⟩
theorem canon_eq {l : List Int} (h : Canon l) : l = digs (dv l).toNat := by
  induction l with
  | nil => rw [dv_nil]; exact digs_zero.symm
  | cons d l ih =>
    have ih' := ih (canon_tail h)
    have hd := (dOk_cons.1 h.1).1
    have hl := dv_nonneg (canon_tail h).1
    have hne : (dv (d :: l)).toNat ≠ 0 := by
      intro h0
      rw [dv_cons] at h0
      unfold BB at *
      have h1 : dv l = 0 := by omega
      have h2 : d = 0 := by omega
      rw [h1] at ih'
      have h3 : l = [] := by rw [ih']; simp [digs_zero]
      subst h3; subst h2
      exact h.2 [] rfl
    rw [digs_pos hne]
    have e1 : (((dv (d :: l)).toNat % 1073741824 : Nat) : Int) = d := by rw [dv_cons] at *; unfold BB at *; omega
    have e2 : (dv (d :: l)).toNat / 1073741824 = (dv l).toNat := by rw [dv_cons] at *; unfold BB at *; omega
    rw [e1, e2, ← ih']
theorem trimD_canon {l : List Int} (h : dOk l) : Canon (trimD l) ∧ dv (trimD l) = dv l := by
  have key : ∀ r : List Int, dOk r.reverse → Canon (trimD r.reverse) ∧ dv (trimD r.reverse) = dv r.reverse := by
    intro r
    induction r with
    | nil => intro _; exact ⟨⟨dOk_nil, fun m hm => by simp [trimD] at hm⟩, rfl⟩
    | cons d r ih =>
      intro hr
      rw [List.reverse_cons] at hr ⊢
      by_cases hd : d = 0
      · subst hd
        rw [trimD_snoc0, dv_snoc, Int.mul_zero, Int.add_zero]
        exact ih (dOk_append.1 hr).1
      · rw [trimD_snoc hd]
        exact ⟨⟨hr, fun m hm => by have := List.append_inj' hm rfl; simp at this; exact hd this.2⟩, rfl⟩
  have := key l.reverse (by simpa using h)
  simpa using this
theorem trimD_eq {l : List Int} (h : dOk l) {n : Nat} (hn : dv l = n) : trimD l = digs n := by
  obtain ⟨h1, h2⟩ := trimD_canon h
  rw [canon_eq h1, h2, hn]
  rfl
theorem trimD_digs (n : Nat) : trimD (digs n) = digs n := trimD_eq (digs_ok n) (dv_digs n)
theorem digs_len_lt (n : Nat) : (n : Int) < PB (digs n).length := by rw [← dv_digs n]; exact dv_lt (digs_ok n)
theorem digs_len_ge {n : Nat} (h : n ≠ 0) : PB ((digs n).length - 1) ≤ n := by
  induction n using Nat.strongRecOn with
  | _ n ih =>
    rw [digs_pos h, List.length_cons, Nat.add_sub_cancel]
    by_cases h1 : n / 1073741824 = 0
    · rw [h1, digs_zero]
      simp; omega
    · have := ih _ (Nat.div_lt_self (Nat.pos_of_ne_zero h) (by omega)) h1
      have hl : (digs (n / 1073741824)).length ≠ 0 := by
        intro e
        exact h1 (digs_nil.1 (List.length_eq_zero_iff.1 e))
      have e : (digs (n / 1073741824)).length = (digs (n / 1073741824)).length - 1 + 1 := by omega
      rw [e, PB_succ]
      unfold BB
      omega
theorem PB_mono {j k : Nat} (h : j ≤ k) : PB j ≤ PB k := by
  obtain ⟨i, rfl⟩ := Nat.exists_eq_add_of_le h
  rw [PB_add]
  have h1 := PB_pos j
  have h2 := PB_pos i
  calc PB j = PB j * 1 := by rw [Int.mul_one]
    _ ≤ PB j * PB i := Int.mul_le_mul_of_nonneg_left (by omega) (by omega)
theorem digs_len_le {n k : Nat} : (digs n).length ≤ k ↔ (n : Int) < PB k := by
  constructor
  · intro h
    exact Int.lt_of_lt_of_le (digs_len_lt n) (PB_mono h)
  · intro h
    by_cases hn : n = 0
    · subst hn; simp [digs_zero]
    · by_cases hk : (digs n).length ≤ k
      · exact hk
      · have h1 := digs_len_ge hn
        have h2 := PB_mono (show k ≤ (digs n).length - 1 by omega)
        omega
theorem digs_len_mono {n m : Nat} (h : n ≤ m) : (digs n).length ≤ (digs m).length := digs_len_le.2 (Int.lt_of_le_of_lt (by omega) (digs_len_lt m))
theorem dv_take_succ {l : List Int} {i : Nat} (h : i < l.length) : dv (l.take (i + 1)) = dv (l.take i) + PB i * l[i] := by
  rw [List.take_succ_eq_append_getElem h, dv_snoc, List.length_take, Nat.min_eq_left (by omega)]
theorem dv_split (l : List Int) (i : Nat) (h : i ≤ l.length) : dv l = dv (l.take i) + PB i * dv (l.drop i) := by
  conv => lhs; rw [← List.take_append_drop i l]
  rw [dv_append, List.length_take, Nat.min_eq_left h]
end Go.Pv
/- Bits of whole numbers, as Go reckons them. -/
namespace Go.Pv
theorem ofInt_toNat (n : Nat) (s : Int) : (BitVec.ofInt n s).toNat = (s % (2 ^ n : Nat)).toNat := by
  rw [BitVec.toNat_ofInt]
/-- The lowest 30 bits. -/
theorem and_mask {s : Int} (_h : I64 s) : IntKind.i64.wrap (BitVec.ofInt IntKind.i64.bits s &&& BitVec.ofInt IntKind.i64.bits 1073741823).toNat = s % 1073741824 := by
  have e : (BitVec.ofInt IntKind.i64.bits s &&& BitVec.ofInt IntKind.i64.bits 1073741823).toNat = (BitVec.ofInt 64 s).toNat % 2 ^ 30 := by
    show (BitVec.ofInt 64 s &&& BitVec.ofInt 64 1073741823).toNat = _
    rw [BitVec.toNat_and]
    have : (BitVec.ofInt 64 1073741823).toNat = 2 ^ 30 - 1 := by decide
    rw [this, Nat.and_two_pow_sub_one_eq_mod]
  rw [e, ofInt_toNat]
  unfold I64 at _h
  have e2 : (((s % ((2 ^ 64 : Nat) : Int)).toNat % 2 ^ 30 : Nat) : Int) = s % 1073741824 := by omega
  rw [e2]
  exact wrap_in (by omega) (by omega)
/-- Digits behind digits. -/
theorem or_low {x u : Int} (hx : 0 ≤ x) (hu : 0 ≤ u) (hu2 : u < 1073741824) (h : x * 1073741824 + u ≤ 9223372036854775807) :
    IntKind.i64.wrap (BitVec.ofInt IntKind.i64.bits (x * 1073741824) ||| BitVec.ofInt IntKind.i64.bits u).toNat = x * 1073741824 + u := by
  have e : (BitVec.ofInt IntKind.i64.bits (x * 1073741824) ||| BitVec.ofInt IntKind.i64.bits u).toNat = x.toNat * 2 ^ 30 + u.toNat := by
    show (BitVec.ofInt 64 (x * 1073741824) ||| BitVec.ofInt 64 u).toNat = _
    rw [BitVec.toNat_or, ofInt_toNat, ofInt_toNat]
    have h1 : ((x * 1073741824) % ((2 ^ 64 : Nat) : Int)).toNat = 2 ^ 30 * x.toNat := by omega
    have h2 : (u % ((2 ^ 64 : Nat) : Int)).toNat = u.toNat := by omega
    rw [h1, h2, ← Nat.two_pow_add_eq_or_of_lt (by omega), Nat.mul_comm]
  rw [e]
  have e2 : ((x.toNat * 2 ^ 30 + u.toNat : Nat) : Int) = x * 1073741824 + u := by omega
  rw [e2]
  exact wrap_in (by omega) (by omega)
theorem shr30 (s : Int) : s.fdiv (2 ^ min (Int.toNat 30) IntKind.i64.bits) = s / 1073741824 := by
  have e : (2 : Int) ^ min (Int.toNat 30) IntKind.i64.bits = 1073741824 := rfl
  rw [e, Int.fdiv_eq_ediv_of_nonneg _ (by omega)]
theorem shl30 {x : Int} (h0 : -8589934592 ≤ x) (h : x ≤ 8589934591) : IntKind.i64.wrap (x * 2 ^ min (Int.toNat 30) IntKind.i64.bits) = x * 1073741824 := by
  have e : (2 : Int) ^ min (Int.toNat 30) IntKind.i64.bits = 1073741824 := rfl
  rw [e]
  exact wrap_in (by omega) (by omega)
theorem and_bits (a : Int) (n : Nat) (hn : n ≤ 62) : (BitVec.ofInt 64 a &&& BitVec.ofInt 64 ((2 ^ n - 1 : Nat) : Int)).toNat = (a % ((2 ^ n : Nat) : Int)).toNat := by
  have hp : 2 ^ n ≤ 2 ^ 62 := Nat.pow_le_pow_right (by omega) hn
  have h0 : 0 < 2 ^ n := Nat.pow_pos (by omega)
  rw [BitVec.toNat_and, ofInt_toNat, ofInt_toNat]
  have h1 : (((2 ^ n - 1 : Nat) : Int) % ((2 ^ 64 : Nat) : Int)).toNat = 2 ^ n - 1 := by
    rw [Int.emod_eq_of_lt (by omega) (by omega)]
    omega
  rw [h1, Nat.and_two_pow_sub_one_eq_mod]
  have h2 : ((a % ((2 ^ 64 : Nat) : Int)).toNat : Int) = a % ((2 ^ 64 : Nat) : Int) := Int.toNat_of_nonneg (Int.emod_nonneg _ (by omega))
  have h3 : (((a % ((2 ^ 64 : Nat) : Int)).toNat % 2 ^ n : Nat) : Int) = a % ((2 ^ n : Nat) : Int) := by
    rw [Int.natCast_emod, h2]
    have e : (2 ^ 64 : Nat) = 2 ^ n * 2 ^ (64 - n) := by rw [← Nat.pow_add]; congr 1; omega
    rw [e, Int.natCast_mul]
    exact Int.emod_emod_of_dvd _ (Int.dvd_mul_right _ _)
  omega
section
variable (a : Int) (K : PV → Prop)
@[simp high] theorem and31 : xbin .and (.val (.int .u64 a)) (.val (.int .u64 31)) K = K (.val (.int .u64 (a % 32))) := by
  have h : IntKind.u64.wrap ((BitVec.ofInt 64 a &&& BitVec.ofInt 64 31).toNat : Int) = a % 32 := by
    have := and_bits a 5 (by omega)
    have e : ((2 ^ 5 - 1 : Nat) : Int) = 31 := by decide
    rw [e] at this
    rw [this, u64_in (by omega) (by omega)]
    omega
  rw [bin_and]
  simp only [true_and]
  exact congrArg (fun n => K (.val (.int .u64 n))) h
@[simp high] theorem and30 : xbin .and (.val (.int .i64 a)) (.val (.int .i64 1073741823)) K = K (.val (.int .i64 (a % 1073741824))) := by
  have h : IntKind.i64.wrap ((BitVec.ofInt 64 a &&& BitVec.ofInt 64 1073741823).toNat : Int) = a % 1073741824 := by
    have := and_bits a 30 (by omega)
    have e : ((2 ^ 30 - 1 : Nat) : Int) = 1073741823 := by decide
    rw [e] at this
    rw [this, wrap_in (by omega) (by omega)]
    omega
  rw [bin_and]
  simp only [true_and]
  exact congrArg (fun n => K (.val (.int .i64 n))) h
@[simp high] theorem and30u : xbin .and (.val (.int .u64 a)) (.val (.int .u64 1073741823)) K = K (.val (.int .u64 (a % 1073741824))) := by
  have h : IntKind.u64.wrap ((BitVec.ofInt 64 a &&& BitVec.ofInt 64 1073741823).toNat : Int) = a % 1073741824 := by
    have := and_bits a 30 (by omega)
    have e : ((2 ^ 30 - 1 : Nat) : Int) = 1073741823 := by decide
    rw [e] at this
    rw [this, u64_in (by omega) (by omega)]
    omega
  rw [bin_and]
  simp only [true_and]
  exact congrArg (fun n => K (.val (.int .u64 n))) h
end
end Go.Pv
/- Long division by digits: plain facts. -/
namespace Go.Pv
section
variable {h v1 v2 u2 W vr tr V T g : Int}
/-- A divisor's first two digits, a dividend's first three. -/
structure Kn (h v1 v2 u2 W vr tr V T : Int) : Prop where
  v1a : 536870912 ≤ v1
  v1b : v1 < BB
  v2a : 0 ≤ v2
  v2b : v2 < BB
  u2a : 0 ≤ u2
  u2b : u2 < BB
  Wp : 0 < W
  vra : 0 ≤ vr
  vrb : vr < W
  tra : 0 ≤ tr
  trb : tr < W
  Ve : V = (v1 * BB + v2) * W + vr
  Te : T = (h * BB + u2) * W + tr
  hp : 0 ≤ h
  lt : T < BB * V
theorem Kn.Vpos (k : Kn h v1 v2 u2 W vr tr V T) : 0 < V := by
  have h1 := k.Ve
  have h2 : 0 < (v1 * BB + v2) * W := Int.mul_pos (by have := k.v1a; have := k.v2a; unfold BB; omega) k.Wp
  have := k.vra
  omega
theorem Kn.Tlt (k : Kn h v1 v2 u2 W vr tr V T) : T < (h * BB + u2 + 1) * W := by
  rw [k.Te, Int.add_mul (h * BB + u2) 1 W, Int.one_mul]
  have := k.trb
  omega
theorem Kn.Tge (k : Kn h v1 v2 u2 W vr tr V T) : (h * BB + u2) * W ≤ T := by
  have := k.Te; have := k.tra; omega
theorem Kn.Vge (k : Kn h v1 v2 u2 W vr tr V T) : (v1 * BB + v2) * W ≤ V := by
  have := k.Ve; have := k.vra; omega
theorem Kn.Tnonneg (k : Kn h v1 v2 u2 W vr tr V T) : 0 ≤ T := by
  have h1 := k.Tge
  have h2 : 0 ≤ (h * BB + u2) * W := Int.mul_nonneg (by have := k.hp; have := k.u2a; unfold BB; omega) (by have := k.Wp; omega)
  omega
theorem Kn.hle (k : Kn h v1 v2 u2 W vr tr V T) : h ≤ v1 * BB + v2 := by
  apply Int.not_lt.1
  intro hlt
  have h1 := k.Tge
  have h2 := k.lt
  have hV : V < (v1 * BB + v2 + 1) * W := by
    rw [k.Ve, Int.add_mul (v1 * BB + v2) 1 W, Int.one_mul]
    have := k.vrb
    omega
  have h3 : h * BB ≤ h * BB + u2 := by have := k.u2a; omega
  have h4 : h * BB * W ≤ (h * BB + u2) * W := Int.mul_le_mul_of_nonneg_right h3 (by have := k.Wp; omega)
  have h5 : (v1 * BB + v2 + 1) * W ≤ h * W := Int.mul_le_mul_of_nonneg_right (by omega) (by have := k.Wp; omega)
  have h6 : h * BB * W = BB * (h * W) := by rw [Int.mul_comm h BB, Int.mul_assoc]
  rw [h6] at h4
  generalize h * W = x at *
  generalize (v1 * BB + v2 + 1) * W = y at *
  generalize (h * BB + u2) * W = z at *
  unfold BB at *
  omega
theorem Kn.q_head (k : Kn h v1 v2 u2 W vr tr V T) : T / V ≤ h / v1 := by
  have hv1 : 0 < v1 := by have := k.v1a; omega
  apply Int.le_ediv_of_mul_le hv1
  apply Int.not_lt.1
  intro hlt
  have hq := Int.ediv_mul_le T (show V ≠ 0 by have := k.Vpos; omega)
  have hq0 : 0 ≤ T / V := Int.ediv_nonneg k.Tnonneg (by have := k.Vpos; omega)
  have a1 : v1 * BB * W ≤ V := by
    refine Int.le_trans (Int.mul_le_mul_of_nonneg_right (show v1 * BB ≤ v1 * BB + v2 by have := k.v2a; omega) (by have := k.Wp; omega)) k.Vge
  have a2 : T / V * (v1 * BB * W) ≤ T / V * V := Int.mul_le_mul_of_nonneg_left a1 hq0
  have a3 : T / V * (v1 * BB * W) = T / V * v1 * (BB * W) := by rw [Int.mul_assoc v1 BB W, Int.mul_assoc]
  have hBW : 0 ≤ BB * W := Int.mul_nonneg (by decide) (by have := k.Wp; omega)
  have a4 : (h + 1) * (BB * W) ≤ T / V * v1 * (BB * W) := Int.mul_le_mul_of_nonneg_right (by omega) hBW
  have a5 : (h * BB + u2 + 1) * W ≤ (h * BB + BB) * W := Int.mul_le_mul_of_nonneg_right (by have := k.u2b; omega) (by have := k.Wp; omega)
  have a6 : (h + 1) * (BB * W) = (h * BB + BB) * W := by rw [← Int.mul_assoc, Int.add_mul h 1 BB, Int.one_mul]
  have a7 := k.Tlt
  omega
theorem Kn.q_lt (k : Kn h v1 v2 u2 W vr tr V T) : T / V < BB := Int.ediv_lt_of_lt_mul k.Vpos k.lt
theorem Kn.q_nonneg (k : Kn h v1 v2 u2 W vr tr V T) : 0 ≤ T / V := Int.ediv_nonneg k.Tnonneg (by have := k.Vpos; omega)
/-- The first guess. -/
theorem Kn.start (k : Kn h v1 v2 u2 W vr tr V T) (hg : g = min (h / v1) 1073741823) : T / V ≤ g ∧ g < BB ∧ 0 ≤ g ∧ 0 ≤ h - g * v1 ∧ h - g * v1 < 2147483648 := by
  have h1 := k.q_head
  have h2 := k.q_lt
  have h3 := k.q_nonneg
  have hv1 : 0 < v1 := by have := k.v1a; omega
  have h4 := Int.ediv_mul_le h (show v1 ≠ 0 by omega)
  have h5 : h < (h / v1 + 1) * v1 := Int.lt_ediv_add_one_mul_self h hv1
  rw [Int.add_mul, Int.one_mul] at h5
  have h6 := k.hle
  have hv1b := k.v1b
  have hv2b := k.v2b
  by_cases hc : h / v1 ≤ 1073741823
  · have e : g = h / v1 := by omega
    subst e
    generalize h / v1 * v1 = x at *
    unfold BB at *
    omega
  · have e : g = 1073741823 := by omega
    subst e
    have h7 : 1073741824 * v1 ≤ h / v1 * v1 := Int.mul_le_mul_of_nonneg_right (by omega) (by omega)
    generalize h / v1 * v1 = x at *
    unfold BB at *
    omega
/-- The guess was too great. -/
theorem Kn.less (k : Kn h v1 v2 u2 W vr tr V T) (hq : T / V ≤ g) (hg : g < BB) (hr : 0 ≤ h - g * v1) (ht : (h - g * v1) * BB + u2 < g * v2) (hm : h - g * v1 ≤ 1073741823) :
    T / V ≤ g - 1 ∧ g - 1 < BB ∧ 0 ≤ g - 1 ∧ 0 ≤ h - (g - 1) * v1 ∧ h - (g - 1) * v1 < 2147483648 := by
  have hq0 := k.q_nonneg
  have e1 : (g - 1) * v1 = g * v1 - v1 := by rw [Int.sub_mul, Int.one_mul]
  have key : T / V < g := by
    apply Int.not_le.1
    intro hge
    have a1 : (h * BB + u2 + 1) * W ≤ g * (v1 * BB + v2) * W := by
      refine Int.mul_le_mul_of_nonneg_right ?_ (by have := k.Wp; omega)
      rw [Int.mul_add]
      have : g * (v1 * BB) = g * v1 * BB := by rw [Int.mul_assoc]
      rw [this]
      rw [Int.sub_mul] at ht
      omega
    have a2 : g * ((v1 * BB + v2) * W) ≤ g * V := Int.mul_le_mul_of_nonneg_left k.Vge (by omega)
    have a3 : g * V ≤ T / V * V := Int.mul_le_mul_of_nonneg_right hge (by have := k.Vpos; omega)
    have a4 := Int.ediv_mul_le T (show V ≠ 0 by have := k.Vpos; omega)
    have a5 := k.Tlt
    rw [← Int.mul_assoc] at a2
    omega
  have := k.v1b
  have := k.v1a
  rw [e1]
  unfold BB at *
  omega
/-- The guess is at most one too great. -/
theorem Kn.stop (k : Kn h v1 v2 u2 W vr tr V T) (hq : T / V ≤ g) (hg : g < BB) (hg0 : 0 ≤ g) (ht : g * v2 ≤ (h - g * v1) * BB + u2 ∨ 1073741823 < h - g * v1) : -V ≤ T - g * V ∧ T - g * V < V := by
  have hV := k.Vpos
  have ht2 : g * v2 ≤ (h - g * v1) * BB + u2 := by
    rcases ht with ht | ht
    · exact ht
    · have a1 : g * v2 ≤ 1073741823 * v2 := Int.mul_le_mul_of_nonneg_right (by unfold BB at hg; omega) k.v2a
      have := k.v2b
      have := k.u2a
      generalize h - g * v1 = x at *
      generalize g * v2 = y at *
      unfold BB at *
      omega
  have a1 : g * (v1 * BB + v2) * W ≤ (h * BB + u2) * W := by
    refine Int.mul_le_mul_of_nonneg_right ?_ (by have := k.Wp; omega)
    rw [Int.mul_add]
    have : g * (v1 * BB) = g * v1 * BB := by rw [Int.mul_assoc]
    rw [this]
    rw [Int.sub_mul] at ht2
    omega
  have a2 : g * V = g * (v1 * BB + v2) * W + g * vr := by rw [k.Ve, Int.mul_add, ← Int.mul_assoc]
  have a3 : g * vr ≤ g * W := Int.mul_le_mul_of_nonneg_left (by have := k.vrb; omega) hg0
  have a4 : g * W ≤ (v1 * BB + v2) * W := by
    refine Int.mul_le_mul_of_nonneg_right ?_ (by have := k.Wp; omega)
    have := k.v1a; have := k.v2a
    unfold BB at *
    omega
  have a5 := k.Vge
  have a6 := k.Tge
  have a7 : T < (T / V + 1) * V := Int.lt_ediv_add_one_mul_self T hV
  rw [Int.add_mul, Int.one_mul] at a7
  have a8 : T / V * V ≤ g * V := Int.mul_le_mul_of_nonneg_right hq (by omega)
  constructor
  · omega
  · omega
end
end Go.Pv
