/- Digits: lists of digits of a base, and what they are as numbers. -/
import Derived.Test.YtmgpkcpalpejcaaDoorLFr
import Derived.Test.YtmgpkcpalpejcaaDoorLRd
namespace Go.Pv
abbrev BB : Int := 1073741824
def dv : List Int → Int
  | [] => 0
  | d :: l => d + BB * dv l
/-- Digits, the least significant one first. -/
def dOk (l : List Int) : Prop := ∀ d ∈ l, 0 ≤ d ∧ d < BB
def digs (n : Nat) : List Int := if h : n = 0 then [] else ((n % 1073741824 : Nat) : Int) :: digs (n / 1073741824)
termination_by n
decreasing_by exact Nat.div_lt_self (Nat.pos_of_ne_zero h) (by omega)
theorem digs_zero : digs 0 = [] := by rw [digs]; simp
theorem digs_pos {n : Nat} (h : n ≠ 0) : digs n = ((n % 1073741824 : Nat) : Int) :: digs (n / 1073741824) := by rw [digs]; simp [h]
theorem digs_one {n : Nat} (h : n ≠ 0) (h2 : n < 1073741824) : digs n = [(n : Int)] := by
  rw [digs_pos h, Nat.mod_eq_of_lt h2, Nat.div_eq_of_lt h2, digs_zero]
@[simp] theorem dv_nil : dv [] = 0 := rfl
@[simp] theorem dv_cons (d : Int) (l : List Int) : dv (d :: l) = d + BB * dv l := rfl
theorem dv_digs (n : Nat) : dv (digs n) = n := by
  induction n using Nat.strongRecOn with
  | _ n ih =>
    by_cases h : n = 0
    · subst h; rw [digs_zero]; rfl
    · rw [digs_pos h, dv_cons, ih _ (Nat.div_lt_self (Nat.pos_of_ne_zero h) (by omega))]
      unfold BB
      omega
theorem digs_ok (n : Nat) : dOk (digs n) := by
  induction n using Nat.strongRecOn with
  | _ n ih =>
    by_cases h : n = 0
    · subst h; rw [digs_zero]; intro d hd; simp at hd
    · rw [digs_pos h]
      intro d hd
      rcases List.mem_cons.1 hd with rfl | hd
      · unfold BB; omega
      · exact ih _ (Nat.div_lt_self (Nat.pos_of_ne_zero h) (by omega)) d hd
theorem digs_inj {n m : Nat} (h : digs n = digs m) : n = m := by
  have := congrArg dv h
  rw [dv_digs, dv_digs] at this
  omega
@[simp] theorem digs_nil {n : Nat} : digs n = [] ↔ n = 0 := by
  constructor
  · intro h
    by_cases hn : n = 0
    · exact hn
    · rw [digs_pos hn] at h; cases h
  · rintro rfl; exact digs_zero
theorem dOk_nil : dOk [] := fun d hd => by simp at hd
theorem dOk_cons {d : Int} {l : List Int} : dOk (d :: l) ↔ (0 ≤ d ∧ d < BB) ∧ dOk l := by
  unfold dOk
  simp
theorem dOk_append {l m : List Int} : dOk (l ++ m) ↔ dOk l ∧ dOk m := by
  unfold dOk
  constructor
  · intro h; exact ⟨fun d hd => h d (by simp [hd]), fun d hd => h d (by simp [hd])⟩
  · rintro ⟨h1, h2⟩ d hd
    rcases List.mem_append.1 hd with hd | hd
    · exact h1 d hd
    · exact h2 d hd
theorem dv_nonneg {l : List Int} (h : dOk l) : 0 ≤ dv l := by
  induction l with
  | nil => exact Int.le_refl 0
  | cons d l ih =>
    have h' := dOk_cons.1 h
    have := ih h'.2
    rw [dv_cons]
    unfold BB at *
    omega
abbrev PB (k : Nat) : Int := BB ^ k
theorem PB_pos (k : Nat) : 0 < PB k := Int.pow_pos (by decide)
theorem PB_succ (k : Nat) : PB (k + 1) = BB * PB k := by unfold PB; rw [Int.pow_succ, Int.mul_comm]
theorem PB_zero : PB 0 = 1 := rfl
theorem PB_add (j k : Nat) : PB (j + k) = PB j * PB k := Int.pow_add ..
theorem dv_lt {l : List Int} (h : dOk l) : dv l < PB l.length := by
  induction l with
  | nil => decide
  | cons d l ih =>
    have h' := dOk_cons.1 h
    have := ih h'.2
    rw [dv_cons, List.length_cons, PB_succ]
    unfold BB at *
    omega
theorem dv_append (l m : List Int) : dv (l ++ m) = dv l + PB l.length * dv m := by
  induction l with
  | nil => simp [PB_zero]
  | cons d l ih =>
    rw [List.cons_append, dv_cons, ih, dv_cons, List.length_cons, PB_succ, Int.mul_add, Int.mul_assoc]
    omega
theorem dv_snoc (l : List Int) (d : Int) : dv (l ++ [d]) = dv l + PB l.length * d := by
  rw [dv_append]; simp
theorem dv_zeros (n : Nat) : dv (List.replicate n 0) = 0 := by
  induction n with
  | zero => rfl
  | succ n ih => rw [List.replicate_succ, dv_cons, ih]; rfl
/-- Without zeros at the end. -/
def trimD (l : List Int) : List Int := l.take (l.length - (l.reverse.takeWhile (· == 0)).length)
theorem trimD_nil : trimD [] = [] := rfl
theorem trimD_snoc0 (l : List Int) : trimD (l ++ [0]) = trimD l := by
  unfold trimD
  have hle : (l.reverse.takeWhile (· == 0)).length ≤ l.length := by
    have := (List.takeWhile_prefix (l := l.reverse) (· == (0 : Int))).length_le
    simpa using this
  simp only [List.reverse_append, List.reverse_cons, List.reverse_nil, List.nil_append, List.singleton_append, List.length_append, List.length_cons, List.length_nil]
  rw [List.takeWhile_cons_of_pos (by decide), List.length_cons]
  rw [show l.length + (0 + 1) - ((l.reverse.takeWhile (· == 0)).length + 1) = l.length - (l.reverse.takeWhile (· == 0)).length by omega]
  rw [List.take_append_of_le_length (by omega)]
theorem trimD_snoc {l : List Int} {d : Int} (h : d ≠ 0) : trimD (l ++ [d]) = l ++ [d] := by
  unfold trimD
  simp only [List.reverse_append, List.reverse_cons, List.reverse_nil, List.nil_append, List.singleton_append]
  rw [List.takeWhile_cons_of_neg (by simpa using h)]
  exact List.take_of_length_le (by simp)
/-- Digits without zeros at the end. -/
def Canon (l : List Int) : Prop := dOk l ∧ ∀ m, l ≠ m ++ [0]
theorem canon_digs (n : Nat) : Canon (digs n) := by
  refine ⟨digs_ok n, ?_⟩
  induction n using Nat.strongRecOn with
  | _ n ih =>
    by_cases h : n = 0
    · subst h; rw [digs_zero]; intro m hm; simp at hm
    · rw [digs_pos h]
      intro m hm
      have ih' := ih _ (Nat.div_lt_self (Nat.pos_of_ne_zero h) (by omega : 1 < 1073741824))
      cases m with
      | nil =>
        simp only [List.nil_append, List.cons.injEq, digs_nil] at hm
        omega
      | cons x m =>
        simp only [List.cons_append, List.cons.injEq] at hm
        exact ih' m hm.2
theorem canon_tail {d : Int} {l : List Int} (h : Canon (d :: l)) : Canon l := ⟨(dOk_cons.1 h.1).2, fun m hm => h.2 (d :: m) (by rw [hm]; rfl)⟩
theorem canon_eq {l : List Int} (h : Canon l) : l = digs (dv l).toNat := by
  induction l with
  | nil => rw [dv_nil]; exact digs_zero.symm
  | cons d l ih =>
    have ih' := ih (canon_tail h)
    have hd := (dOk_cons.1 h.1).1
    have hl := dv_nonneg (canon_tail h).1
    have hne : (dv (d :: l)).toNat ≠ 0 := by
      intro h0
      rw [dv_cons] at h0
      unfold BB at *
      have h1 : dv l = 0 := by omega
      have h2 : d = 0 := by omega
      rw [h1] at ih'
      have h3 : l = [] := by rw [ih']; simp [digs_zero]
      subst h3; subst h2
      exact h.2 [] rfl
    rw [digs_pos hne]
    have e1 : (((dv (d :: l)).toNat % 1073741824 : Nat) : Int) = d := by rw [dv_cons] at *; unfold BB at *; omega
    have e2 : (dv (d :: l)).toNat / 1073741824 = (dv l).toNat := by rw [dv_cons] at *; unfold BB at *; omega
    rw [e1, e2, ← ih']
theorem trimD_canon {l : List Int} (h : dOk l) : Canon (trimD l) ∧ dv (trimD l) = dv l := by
  have key : ∀ r : List Int, dOk r.reverse → Canon (trimD r.reverse) ∧ dv (trimD r.reverse) = dv r.reverse := by
    intro r
    induction r with
    | nil => intro _; exact ⟨⟨dOk_nil, fun m hm => by simp [trimD] at hm⟩, rfl⟩
    | cons d r ih =>
      intro hr
      rw [List.reverse_cons] at hr ⊢
      by_cases hd : d = 0
      · subst hd
        rw [trimD_snoc0, dv_snoc, Int.mul_zero, Int.add_zero]
        exact ih (dOk_append.1 hr).1
      · rw [trimD_snoc hd]
        exact ⟨⟨hr, fun m hm => by have := List.append_inj' hm rfl; simp at this; exact hd this.2⟩, rfl⟩
  have := key l.reverse (by simpa using h)
  simpa using this
theorem trimD_eq {l : List Int} (h : dOk l) {n : Nat} (hn : dv l = n) : trimD l = digs n := by
  obtain ⟨h1, h2⟩ := trimD_canon h
  rw [canon_eq h1, h2, hn]
  rfl
theorem trimD_digs (n : Nat) : trimD (digs n) = digs n := trimD_eq (digs_ok n) (dv_digs n)
theorem digs_len_lt (n : Nat) : (n : Int) < PB (digs n).length := by rw [← dv_digs n]; exact dv_lt (digs_ok n)
theorem digs_len_ge {n : Nat} (h : n ≠ 0) : PB ((digs n).length - 1) ≤ n := by
  induction n using Nat.strongRecOn with
  | _ n ih =>
    rw [digs_pos h, List.length_cons, Nat.add_sub_cancel]
    by_cases h1 : n / 1073741824 = 0
    · rw [h1, digs_zero]
      simp [PB_zero]; omega
    · have := ih _ (Nat.div_lt_self (Nat.pos_of_ne_zero h) (by omega)) h1
      have hl : (digs (n / 1073741824)).length ≠ 0 := by
        intro e
        exact h1 (digs_nil.1 (List.length_eq_zero_iff.1 e))
      have e : (digs (n / 1073741824)).length = (digs (n / 1073741824)).length - 1 + 1 := by omega
      rw [e, PB_succ]
      unfold BB
      omega
theorem PB_mono {j k : Nat} (h : j ≤ k) : PB j ≤ PB k := by
  obtain ⟨i, rfl⟩ := Nat.exists_eq_add_of_le h
  rw [PB_add]
  have h1 := PB_pos j
  have h2 := PB_pos i
  calc PB j = PB j * 1 := by rw [Int.mul_one]
    _ ≤ PB j * PB i := Int.mul_le_mul_of_nonneg_left (by omega) (by omega)
theorem digs_len_le {n k : Nat} : (digs n).length ≤ k ↔ (n : Int) < PB k := by
  constructor
  · intro h
    exact Int.lt_of_lt_of_le (digs_len_lt n) (PB_mono h)
  · intro h
    by_cases hn : n = 0
    · subst hn; simp [digs_zero]
    · by_cases hk : (digs n).length ≤ k
      · exact hk
      · have h1 := digs_len_ge hn
        have h2 := PB_mono (show k ≤ (digs n).length - 1 by omega)
        omega
theorem digs_len_mono {n m : Nat} (h : n ≤ m) : (digs n).length ≤ (digs m).length := digs_len_le.2 (Int.lt_of_le_of_lt (by omega) (digs_len_lt m))
theorem dv_take_succ {l : List Int} {i : Nat} (h : i < l.length) : dv (l.take (i + 1)) = dv (l.take i) + PB i * l[i] := by
  rw [List.take_succ_eq_append_getElem h, dv_snoc, List.length_take, Nat.min_eq_left (by omega)]
theorem dv_split (l : List Int) (i : Nat) (h : i ≤ l.length) : dv l = dv (l.take i) + PB i * dv (l.drop i) := by
  conv => lhs; rw [← List.take_append_drop i l]
  rw [dv_append, List.length_take, Nat.min_eq_left h]
end Go.Pv
/- Bits of whole numbers, as Go reckons them. -/
namespace Go.Pv
theorem ofInt_toNat (n : Nat) (s : Int) : (BitVec.ofInt n s).toNat = (s % (2 ^ n : Nat)).toNat := by
  rw [BitVec.toNat_ofInt]
/-- The lowest 30 bits. -/
theorem and_mask {s : Int} (h : I64 s) : IntKind.i64.wrap (BitVec.ofInt IntKind.i64.bits s &&& BitVec.ofInt IntKind.i64.bits 1073741823).toNat = s % 1073741824 := by
  have e : (BitVec.ofInt IntKind.i64.bits s &&& BitVec.ofInt IntKind.i64.bits 1073741823).toNat = (BitVec.ofInt 64 s).toNat % 2 ^ 30 := by
    show (BitVec.ofInt 64 s &&& BitVec.ofInt 64 1073741823).toNat = _
    rw [BitVec.toNat_and]
    have : (BitVec.ofInt 64 1073741823).toNat = 2 ^ 30 - 1 := by decide
    rw [this, Nat.and_two_pow_sub_one_eq_mod]
  rw [e, ofInt_toNat]
  unfold I64 at h
  have e2 : (((s % ((2 ^ 64 : Nat) : Int)).toNat % 2 ^ 30 : Nat) : Int) = s % 1073741824 := by omega
  rw [e2]
  exact wrap_in (by omega) (by omega)
/-- Digits behind digits. -/
theorem or_low {x u : Int} (hx : 0 ≤ x) (hu : 0 ≤ u) (hu2 : u < 1073741824) (h : x * 1073741824 + u ≤ 9223372036854775807) :
    IntKind.i64.wrap (BitVec.ofInt IntKind.i64.bits (x * 1073741824) ||| BitVec.ofInt IntKind.i64.bits u).toNat = x * 1073741824 + u := by
  have e : (BitVec.ofInt IntKind.i64.bits (x * 1073741824) ||| BitVec.ofInt IntKind.i64.bits u).toNat = x.toNat * 2 ^ 30 + u.toNat := by
    show (BitVec.ofInt 64 (x * 1073741824) ||| BitVec.ofInt 64 u).toNat = _
    rw [BitVec.toNat_or, ofInt_toNat, ofInt_toNat]
    have h1 : ((x * 1073741824) % ((2 ^ 64 : Nat) : Int)).toNat = 2 ^ 30 * x.toNat := by omega
    have h2 : (u % ((2 ^ 64 : Nat) : Int)).toNat = u.toNat := by omega
    rw [h1, h2, ← Nat.two_pow_add_eq_or_of_lt (by omega), Nat.mul_comm]
  rw [e]
  have e2 : ((x.toNat * 2 ^ 30 + u.toNat : Nat) : Int) = x * 1073741824 + u := by omega
  rw [e2]
  exact wrap_in (by omega) (by omega)
theorem shr30 (s : Int) : s.fdiv (2 ^ min (Int.toNat 30) IntKind.i64.bits) = s / 1073741824 := by
  have e : (2 : Int) ^ min (Int.toNat 30) IntKind.i64.bits = 1073741824 := rfl
  rw [e, Int.fdiv_eq_ediv_of_nonneg _ (by omega)]
theorem shl30 {x : Int} (h0 : -8589934592 ≤ x) (h : x ≤ 8589934591) : IntKind.i64.wrap (x * 2 ^ min (Int.toNat 30) IntKind.i64.bits) = x * 1073741824 := by
  have e : (2 : Int) ^ min (Int.toNat 30) IntKind.i64.bits = 1073741824 := rfl
  rw [e]
  exact wrap_in (by omega) (by omega)
theorem and_bits (a : Int) (n : Nat) (hn : n ≤ 62) : (BitVec.ofInt 64 a &&& BitVec.ofInt 64 ((2 ^ n - 1 : Nat) : Int)).toNat = (a % ((2 ^ n : Nat) : Int)).toNat := by
  have hp : 2 ^ n ≤ 2 ^ 62 := Nat.pow_le_pow_right (by omega) hn
  have h0 : 0 < 2 ^ n := Nat.pow_pos (by omega)
  rw [BitVec.toNat_and, ofInt_toNat, ofInt_toNat]
  have h1 : (((2 ^ n - 1 : Nat) : Int) % ((2 ^ 64 : Nat) : Int)).toNat = 2 ^ n - 1 := by
    rw [Int.emod_eq_of_lt (by omega) (by omega)]
    omega
  rw [h1, Nat.and_two_pow_sub_one_eq_mod]
  have h2 : ((a % ((2 ^ 64 : Nat) : Int)).toNat : Int) = a % ((2 ^ 64 : Nat) : Int) := Int.toNat_of_nonneg (Int.emod_nonneg _ (by omega))
  have h3 : (((a % ((2 ^ 64 : Nat) : Int)).toNat % 2 ^ n : Nat) : Int) = a % ((2 ^ n : Nat) : Int) := by
    rw [Int.natCast_emod, h2]
    have e : (2 ^ 64 : Nat) = 2 ^ n * 2 ^ (64 - n) := by rw [← Nat.pow_add]; congr 1; omega
    rw [e, Int.natCast_mul]
    exact Int.emod_emod_of_dvd _ (Int.dvd_mul_right _ _)
  omega
section
variable (a : Int) (K : PV → Prop)
@[simp high] theorem and31 : xbin .and (.val (.int .u64 a)) (.val (.int .u64 31)) K = K (.val (.int .u64 (a % 32))) := by
  have h : IntKind.u64.wrap ((BitVec.ofInt 64 a &&& BitVec.ofInt 64 31).toNat : Int) = a % 32 := by
    have := and_bits a 5 (by omega)
    have e : ((2 ^ 5 - 1 : Nat) : Int) = 31 := by decide
    rw [e] at this
    rw [this, u64_in (by omega) (by omega)]
    omega
  rw [bin_and]
  simp only [true_and]
  exact congrArg (fun n => K (.val (.int .u64 n))) h
@[simp high] theorem and30 : xbin .and (.val (.int .i64 a)) (.val (.int .i64 1073741823)) K = K (.val (.int .i64 (a % 1073741824))) := by
  have h : IntKind.i64.wrap ((BitVec.ofInt 64 a &&& BitVec.ofInt 64 1073741823).toNat : Int) = a % 1073741824 := by
    have := and_bits a 30 (by omega)
    have e : ((2 ^ 30 - 1 : Nat) : Int) = 1073741823 := by decide
    rw [e] at this
    rw [this, wrap_in (by omega) (by omega)]
    omega
  rw [bin_and]
  simp only [true_and]
  exact congrArg (fun n => K (.val (.int .i64 n))) h
@[simp high] theorem and30u : xbin .and (.val (.int .u64 a)) (.val (.int .u64 1073741823)) K = K (.val (.int .u64 (a % 1073741824))) := by
  have h : IntKind.u64.wrap ((BitVec.ofInt 64 a &&& BitVec.ofInt 64 1073741823).toNat : Int) = a % 1073741824 := by
    have := and_bits a 30 (by omega)
    have e : ((2 ^ 30 - 1 : Nat) : Int) = 1073741823 := by decide
    rw [e] at this
    rw [this, u64_in (by omega) (by omega)]
    omega
  rw [bin_and]
  simp only [true_and]
  exact congrArg (fun n => K (.val (.int .u64 n))) h
end
end Go.Pv
/- Words of 32 bits. -/
namespace Go.Pv
/-- A word, as a whole number. -/
def u32 (x : BitVec 32) : Int := x.toNat
abbrev wv (x : BitVec 32) : PV := .val (.int .u32 (u32 x))
theorem u32_lt (x : BitVec 32) : 0 ≤ u32 x ∧ u32 x < 4294967296 := by
  unfold u32
  have := x.isLt
  omega
theorem u32_of {n : Int} (h0 : 0 ≤ n) (h : n < 4294967296) : u32 (BitVec.ofInt 32 n) = n := by
  unfold u32
  rw [BitVec.toNat_ofInt]
  omega
theorem u32_inj {x y : BitVec 32} (h : u32 x = u32 y) : x = y := by
  unfold u32 at h
  exact BitVec.eq_of_toNat_eq (by omega)
@[simp] theorem ofInt_u32 (x : BitVec 32) : BitVec.ofInt 32 (u32 x) = x := by
  apply BitVec.eq_of_toNat_eq
  rw [BitVec.toNat_ofInt]
  unfold u32
  have := x.isLt
  omega
theorem wrap_u32 (n : Int) : IntKind.u32.wrap n = u32 (BitVec.ofInt 32 n) := by
  unfold u32
  rw [BitVec.toNat_ofInt]
  simp [IntKind.wrap, IntKind.bits, IntKind.signed]
  omega
theorem wrap_u32_nat (x : BitVec 32) : IntKind.u32.wrap (x.toNat : Int) = u32 x := by
  rw [wrap_u32]
  congr 1
  exact ofInt_u32 x
section
variable (x y : BitVec 32) (K : PV → Prop)
@[simp high] theorem w_add : xbin .add (wv x) (wv y) K = K (wv (x + y)) := by
  have h : BitVec.ofInt 32 (u32 x + u32 y) = x + y := by
    apply BitVec.eq_of_toNat_eq
    rw [BitVec.toNat_ofInt, BitVec.toNat_add]
    unfold u32
    omega
  simp only [bin_add, true_and, wrap_u32, h]
@[simp high] theorem w_and : xbin .and (wv x) (wv y) K = K (wv (x &&& y)) := by
  have h : IntKind.u32.wrap ((BitVec.ofInt 32 (u32 x) &&& BitVec.ofInt 32 (u32 y)).toNat : Int) = u32 (x &&& y) := by rw [ofInt_u32, ofInt_u32, wrap_u32_nat]
  rw [bin_and]
  simp only [true_and]
  exact congrArg (fun n => K (.val (.int .u32 n))) h
@[simp high] theorem w_or : xbin .or (wv x) (wv y) K = K (wv (x ||| y)) := by
  have h : IntKind.u32.wrap ((BitVec.ofInt 32 (u32 x) ||| BitVec.ofInt 32 (u32 y)).toNat : Int) = u32 (x ||| y) := by rw [ofInt_u32, ofInt_u32, wrap_u32_nat]
  rw [bin_or]
  simp only [true_and]
  exact congrArg (fun n => K (.val (.int .u32 n))) h
@[simp high] theorem w_xor : xbin .xor (wv x) (wv y) K = K (wv (x ^^^ y)) := by
  have h : IntKind.u32.wrap ((BitVec.ofInt 32 (u32 x) ^^^ BitVec.ofInt 32 (u32 y)).toNat : Int) = u32 (x ^^^ y) := by rw [ofInt_u32, ofInt_u32, wrap_u32_nat]
  rw [bin_xor]
  simp only [true_and]
  exact congrArg (fun n => K (.val (.int .u32 n))) h
theorem shl_u32 (n : Nat) (hn : n ≤ 32) : IntKind.u32.wrap (u32 x * 2 ^ n) = u32 (x <<< n) := by
  rw [wrap_u32]
  congr 1
  apply BitVec.eq_of_toNat_eq
  rw [BitVec.toNat_ofInt, BitVec.toNat_shiftLeft, Nat.shiftLeft_eq]
  unfold u32
  have : (x.toNat : Int) * 2 ^ n = ((x.toNat * 2 ^ n : Nat) : Int) := by simp
  rw [this]
  omega
theorem shr_u32 (n : Nat) : (u32 x).fdiv (2 ^ n) = u32 (x >>> n) := by
  unfold u32
  rw [BitVec.toNat_ushiftRight, Nat.shiftRight_eq_div_pow, Int.fdiv_eq_ediv_of_nonneg _ (Int.pow_nonneg (by omega))]
  simp
@[simp high] theorem w_shl (n : Nat) (k : IntKind) : xbin .shl (wv x) (.val (.int k (n : Int))) K = K (wv (x <<< min n 32)) := by
  have e : IntKind.u32.bits = 32 := rfl
  have h : (0 : Int) ≤ n := by omega
  simp only [bin_shl, h, true_and, e, Int.toNat_natCast, shl_u32 x (min n 32) (Nat.min_le_right ..)]
@[simp high] theorem w_shr (n : Nat) (k : IntKind) : xbin .shr (wv x) (.val (.int k (n : Int))) K = K (wv (x >>> min n 32)) := by
  have e : IntKind.u32.bits = 32 := rfl
  have h : (0 : Int) ≤ n := by omega
  simp only [bin_shr, h, true_and, e, Int.toNat_natCast, shr_u32]
@[simp high] theorem w_shl_lit (n : Nat) (k : IntKind) : xbin .shl (wv x) (.val (.int k (no_index (OfNat.ofNat n)))) K = K (wv (x <<< min n 32)) := w_shl x K n k
@[simp high] theorem w_shr_lit (n : Nat) (k : IntKind) : xbin .shr (wv x) (.val (.int k (no_index (OfNat.ofNat n)))) K = K (wv (x >>> min n 32)) := w_shr x K n k
@[simp] theorem w_not : unXor (wv x) K = K (wv (~~~ x)) := by
  have h : IntKind.u32.wrap ((BitVec.ofInt 32 (if IntKind.u32.signed then -1 else IntKind.u32.max) ^^^ BitVec.ofInt 32 (u32 x)).toNat : Int) = u32 (~~~ x) := by
    have e : BitVec.ofInt 32 (if IntKind.u32.signed then -1 else IntKind.u32.max) = BitVec.allOnes 32 := by decide
    rw [e, ofInt_u32, wrap_u32_nat, BitVec.allOnes_xor]
  exact congrArg (fun n => K (.val (.int .u32 n))) h
theorem rot_eq (n : Nat) (h : n < 32) : x <<< (32 - n) ||| x >>> n = x.rotateRight n := by
  rw [BitVec.rotateRight_def, Nat.mod_eq_of_lt h, BitVec.or_comm]
end
theorem ch_eq (e f g : BitVec 32) : g ^^^ (e &&& (f ^^^ g)) = (e &&& f) ^^^ ((~~~ e) &&& g) := by
  apply BitVec.eq_of_getElem_eq
  intro i hi
  simp only [BitVec.getElem_xor, BitVec.getElem_and, BitVec.getElem_not]
  cases e[i] <;> cases f[i] <;> cases g[i] <;> rfl
theorem maj_eq (a b c : BitVec 32) : (a &&& b) ||| (c &&& (a ||| b)) = (a &&& b) ^^^ (a &&& c) ^^^ (b &&& c) := by
  apply BitVec.eq_of_getElem_eq
  intro i hi
  simp only [BitVec.getElem_xor, BitVec.getElem_and, BitVec.getElem_or]
  cases a[i] <;> cases b[i] <;> cases c[i] <;> rfl
/-! ### Bytes -/
def u8 (x : BitVec 8) : Int := x.toNat
abbrev bv (x : BitVec 8) : PV := .val (.int .u8 (u8 x))
theorem u8_lt (x : BitVec 8) : 0 ≤ u8 x ∧ u8 x < 256 := by
  unfold u8
  have := x.isLt
  omega
theorem u8_inj {x y : BitVec 8} (h : u8 x = u8 y) : x = y := by
  unfold u8 at h
  exact BitVec.eq_of_toNat_eq (by omega)
theorem wrap_u8 (n : Int) : IntKind.u8.wrap n = u8 (BitVec.ofInt 8 n) := by
  unfold u8
  rw [BitVec.toNat_ofInt]
  simp [IntKind.wrap, IntKind.bits, IntKind.signed]
  omega
@[simp] theorem wrap_u32_u8 (x : BitVec 8) : IntKind.u32.wrap (u8 x) = u32 (x.setWidth 32) := by
  rw [wrap_u32]
  congr 1
  apply BitVec.eq_of_toNat_eq
  rw [BitVec.toNat_ofInt, BitVec.toNat_setWidth]
  unfold u8
  have := x.isLt
  omega
def byteRow (l : List (BitVec 8)) : List PV := l.map bv
abbrev byteLst (t : Bool) (l : List (BitVec 8)) : PV := .list t (byteRow l) l.length
@[simp] theorem byteRow_nil : byteRow [] = [] := rfl
theorem byteRow_len (l : List (BitVec 8)) : (byteRow l).length = l.length * 1 := by simp [byteRow]
@[simp] theorem byteRow_length (l : List (BitVec 8)) : (byteRow l).length = l.length := by simp [byteRow]
theorem byteRow_append (l m : List (BitVec 8)) : byteRow (l ++ m) = byteRow l ++ byteRow m := by simp [byteRow]
@[simp] theorem byteRow_get (l : List (BitVec 8)) (i : Nat) (h : i < l.length) : (byteRow l)[i]? = some (bv l[i]) := by simp [byteRow, h]
@[simp] theorem byteRow_getE (l : List (BitVec 8)) (i : Nat) (h : i < (byteRow l).length) : (byteRow l)[i]'h = bv (l[i]'(by rw [byteRow_length] at h; exact h)) := by simp [byteRow]
theorem byteRow_take (l : List (BitVec 8)) (i : Nat) : (byteRow l).take i = byteRow (l.take i) := by simp [byteRow]
theorem byteRow_drop (l : List (BitVec 8)) (i : Nat) : (byteRow l).drop i = byteRow (l.drop i) := by simp [byteRow]
theorem byteRow_set (l : List (BitVec 8)) (i : Nat) (x : BitVec 8) : (byteRow l).set i (bv x) = byteRow (l.set i x) := by simp [byteRow, List.map_set]
theorem byteRow_one (x : BitVec 8) : byteRow [x] = [bv x] := rfl
theorem strCells_eq (s : ByteArray) : strCells s = byteRow (s.data.toList.map (·.toBitVec)) := by
  unfold strCells byteRow
  rw [List.map_map]
  rfl
def wordRow (l : List (BitVec 32)) : List PV := l.map wv
@[simp] theorem wordRow_length (l : List (BitVec 32)) : (wordRow l).length = l.length := by simp [wordRow]
@[simp] theorem wordRow_get (l : List (BitVec 32)) (i : Nat) (h : i < l.length) : (wordRow l)[i]? = some (wv l[i]) := by simp [wordRow, h]
@[simp] theorem wordRow_getE (l : List (BitVec 32)) (i : Nat) (h : i < (wordRow l).length) : (wordRow l)[i]'h = wv (l[i]'(by rw [wordRow_length] at h; exact h)) := by simp [wordRow]
theorem wordRow_set (l : List (BitVec 32)) (i : Nat) (x : BitVec 32) : (wordRow l).set i (wv x) = wordRow (l.set i x) := by simp [wordRow, List.map_set]
/-- Four bytes, the most significant one first. -/
def wordOf (a b c d : BitVec 8) : BitVec 32 := a.setWidth 32 <<< 24 ||| b.setWidth 32 <<< 16 ||| c.setWidth 32 <<< 8 ||| d.setWidth 32
theorem wordOf_eq (a b c d : BitVec 8) : (((0#32 <<< 8 ||| a.setWidth 32) <<< 8 ||| b.setWidth 32) <<< 8 ||| c.setWidth 32) <<< 8 ||| d.setWidth 32 = wordOf a b c d := by
  unfold wordOf
  simp only [BitVec.shiftLeft_or_distrib, ← BitVec.shiftLeft_add, BitVec.zero_shiftLeft, BitVec.zero_or]
end Go.Pv
/- SHA-256: what it is, in words and bytes. -/
namespace Go.Pv
theorem sub_all {l : List PV} {n : Nat} (h : l.length = n) : Pv.sub l 0 n = some l := by
  rw [sub_eq, if_pos (by omega), List.drop_zero, List.take_of_length_le (by omega)]
namespace Sha
/-- The message's words. -/
def msg (m : Nat → BitVec 32) (t : Nat) : BitVec 32 :=
  if t < 16 then m t
  else msg m (t - 16) + ((msg m (t - 15)).rotateRight 7 ^^^ (msg m (t - 15)).rotateRight 18 ^^^ (msg m (t - 15)) >>> 3) + msg m (t - 7) +
    ((msg m (t - 2)).rotateRight 17 ^^^ (msg m (t - 2)).rotateRight 19 ^^^ (msg m (t - 2)) >>> 10)
termination_by t
theorem msg_low (m : Nat → BitVec 32) {t : Nat} (h : t < 16) : msg m t = m t := by rw [msg, if_pos h]
theorem msg_high (m : Nat → BitVec 32) (s : Nat) : msg m (s + 16) = msg m s + ((msg m (s + 1)).rotateRight 7 ^^^ (msg m (s + 1)).rotateRight 18 ^^^ (msg m (s + 1)) >>> 3) + msg m (s + 9) +
    ((msg m (s + 14)).rotateRight 17 ^^^ (msg m (s + 14)).rotateRight 19 ^^^ (msg m (s + 14)) >>> 10) := by
  rw [msg, if_neg (by omega)]
  rfl
def wAt (m : Nat → BitVec 32) (t : Nat) : List (BitVec 32) := (List.range 64).map fun j => if j < t then msg m j else 0
theorem wAt_len (m : Nat → BitVec 32) (t : Nat) : (wAt m t).length = 64 := by simp [wAt]
theorem wAt_get (m : Nat → BitVec 32) {t j : Nat} (hj : j < 64) (ht : j < t) : (wordRow (wAt m t))[j]? = some (wv (msg m j)) := by
  rw [wordRow_get _ _ (by rw [wAt_len]; exact hj)]
  simp [wAt, ht]
theorem wAt_set (m : Nat → BitVec 32) {t : Nat} (ht : t < 64) : (wordRow (wAt m t)).set t (wv (msg m t)) = wordRow (wAt m (t + 1)) := by
  rw [wordRow_set]
  congr 1
  apply List.ext_getElem?
  intro j
  rw [List.getElem?_set, wAt_len]
  unfold wAt
  rw [List.getElem?_map, List.getElem?_map]
  by_cases hj : t = j
  · subst hj
    rw [if_pos rfl, if_pos ht, List.getElem?_range ht]
    simp
  · rw [if_neg hj]
    by_cases h64 : j < 64
    · rw [List.getElem?_range h64]
      simp only [Option.map_some]
      by_cases h1 : j < t
      · rw [if_pos h1, if_pos (by omega)]
      · rw [if_neg h1, if_neg (by omega)]
    · rw [List.getElem?_eq_none (by simpa using h64)]
      rfl
/-- The state. -/
structure S8 where
  a : BitVec 32
  b : BitVec 32
  c : BitVec 32
  d : BitVec 32
  e : BitVec 32
  f : BitVec 32
  g : BitVec 32
  h : BitVec 32
def S8.row (s : S8) : List PV := [wv s.a, wv s.b, wv s.c, wv s.d, wv s.e, wv s.f, wv s.g, wv s.h]
def S8.words (s : S8) : List (BitVec 32) := [s.a, s.b, s.c, s.d, s.e, s.f, s.g, s.h]
@[simp] theorem S8.len (s : S8) : s.row.length = 8 := rfl
@[simp] theorem S8.get0 (s : S8) : s.row[0]? = some (wv s.a) := rfl
@[simp] theorem S8.get1 (s : S8) : s.row[1]? = some (wv s.b) := rfl
@[simp] theorem S8.get2 (s : S8) : s.row[2]? = some (wv s.c) := rfl
@[simp] theorem S8.get3 (s : S8) : s.row[3]? = some (wv s.d) := rfl
@[simp] theorem S8.get4 (s : S8) : s.row[4]? = some (wv s.e) := rfl
@[simp] theorem S8.get5 (s : S8) : s.row[5]? = some (wv s.f) := rfl
@[simp] theorem S8.get6 (s : S8) : s.row[6]? = some (wv s.g) := rfl
@[simp] theorem S8.get7 (s : S8) : s.row[7]? = some (wv s.h) := rfl
@[simp] theorem S8.getE0 (s : S8) (h : 0 < s.row.length) : s.row[0]'h = wv s.a := rfl
@[simp] theorem S8.getE1 (s : S8) (h : 1 < s.row.length) : s.row[1]'h = wv s.b := rfl
@[simp] theorem S8.getE2 (s : S8) (h : 2 < s.row.length) : s.row[2]'h = wv s.c := rfl
@[simp] theorem S8.getE3 (s : S8) (h : 3 < s.row.length) : s.row[3]'h = wv s.d := rfl
@[simp] theorem S8.getE4 (s : S8) (h : 4 < s.row.length) : s.row[4]'h = wv s.e := rfl
@[simp] theorem S8.getE5 (s : S8) (h : 5 < s.row.length) : s.row[5]'h = wv s.f := rfl
@[simp] theorem S8.getE6 (s : S8) (h : 6 < s.row.length) : s.row[6]'h = wv s.g := rfl
@[simp] theorem S8.getE7 (s : S8) (h : 7 < s.row.length) : s.row[7]'h = wv s.h := rfl
@[simp] theorem S8.set0 (s : S8) (x : BitVec 32) : s.row.set 0 (wv x) = (S8.mk x s.b s.c s.d s.e s.f s.g s.h).row := rfl
@[simp] theorem S8.set4 (s : S8) (x : BitVec 32) : s.row.set 4 (wv x) = (S8.mk s.a s.b s.c s.d x s.f s.g s.h).row := rfl
@[simp] theorem S8.set1 (s : S8) (x : BitVec 32) : s.row.set 1 (wv x) = (S8.mk s.a x s.c s.d s.e s.f s.g s.h).row := rfl
@[simp] theorem S8.set2 (s : S8) (x : BitVec 32) : s.row.set 2 (wv x) = (S8.mk s.a s.b x s.d s.e s.f s.g s.h).row := rfl
@[simp] theorem S8.set3 (s : S8) (x : BitVec 32) : s.row.set 3 (wv x) = (S8.mk s.a s.b s.c x s.e s.f s.g s.h).row := rfl
@[simp] theorem S8.set5 (s : S8) (x : BitVec 32) : s.row.set 5 (wv x) = (S8.mk s.a s.b s.c s.d s.e x s.g s.h).row := rfl
@[simp] theorem S8.set6 (s : S8) (x : BitVec 32) : s.row.set 6 (wv x) = (S8.mk s.a s.b s.c s.d s.e s.f x s.h).row := rfl
@[simp] theorem S8.set7 (s : S8) (x : BitVec 32) : s.row.set 7 (wv x) = (S8.mk s.a s.b s.c s.d s.e s.f s.g x).row := rfl
@[simp] theorem S8.shift (s : S8) : setCells s.row 1 ((s.row.take 7).take 7) = (S8.mk s.a s.a s.b s.c s.d s.e s.f s.g).row := rfl
@[simp] theorem S8.sub (s : S8) : Pv.sub s.row 0 8 = some s.row := rfl
def sig (x : BitVec 32) (a b c : Nat) : BitVec 32 := x.rotateRight a ^^^ x.rotateRight b ^^^ x.rotateRight c
def t1 (s : S8) (k w : BitVec 32) : BitVec 32 := s.h + sig s.e 6 11 25 + ((s.e &&& s.f) ^^^ ((~~~ s.e) &&& s.g)) + k + w
def t2 (s : S8) : BitVec 32 := sig s.a 2 13 22 + ((s.a &&& s.b) ^^^ (s.a &&& s.c) ^^^ (s.b &&& s.c))
def step (s : S8) (k w : BitVec 32) : S8 := ⟨t1 s k w + t2 s, s.a, s.b, s.c, s.d + t1 s k w, s.e, s.f, s.g⟩
def nums : List (BitVec 32) := 0x428a2f98#32 :: 0x71374491#32 :: 0xb5c0fbcf#32 :: 0xe9b5dba5#32 :: 0x3956c25b#32 :: 0x59f111f1#32 :: 0x923f82a4#32 :: 0xab1c5ed5#32 ::
  0xd807aa98#32 :: 0x12835b01#32 :: 0x243185be#32 :: 0x550c7dc3#32 :: 0x72be5d74#32 :: 0x80deb1fe#32 :: 0x9bdc06a7#32 :: 0xc19bf174#32 ::
  0xe49b69c1#32 :: 0xefbe4786#32 :: 0x0fc19dc6#32 :: 0x240ca1cc#32 :: 0x2de92c6f#32 :: 0x4a7484aa#32 :: 0x5cb0a9dc#32 :: 0x76f988da#32 ::
  0x983e5152#32 :: 0xa831c66d#32 :: 0xb00327c8#32 :: 0xbf597fc7#32 :: 0xc6e00bf3#32 :: 0xd5a79147#32 :: 0x06ca6351#32 :: 0x14292967#32 ::
  0x27b70a85#32 :: 0x2e1b2138#32 :: 0x4d2c6dfc#32 :: 0x53380d13#32 :: 0x650a7354#32 :: 0x766a0abb#32 :: 0x81c2c92e#32 :: 0x92722c85#32 ::
  0xa2bfe8a1#32 :: 0xa81a664b#32 :: 0xc24b8b70#32 :: 0xc76c51a3#32 :: 0xd192e819#32 :: 0xd6990624#32 :: 0xf40e3585#32 :: 0x106aa070#32 ::
  0x19a4c116#32 :: 0x1e376c08#32 :: 0x2748774c#32 :: 0x34b0bcb5#32 :: 0x391c0cb3#32 :: 0x4ed8aa4a#32 :: 0x5b9cca4f#32 :: 0x682e6ff3#32 ::
  0x748f82ee#32 :: 0x78a5636f#32 :: 0x84c87814#32 :: 0x8cc70208#32 :: 0x90befffa#32 :: 0xa4506ceb#32 :: 0xbef9a3f7#32 :: 0xc67178f2#32 :: []
theorem nums_len : nums.length = 64 := rfl
def start : S8 := ⟨0x6a09e667#32, 0xbb67ae85#32, 0x3c6ef372#32, 0xa54ff53a#32, 0x510e527f#32, 0x9b05688c#32, 0x1f83d9ab#32, 0x5be0cd19#32⟩
def rounds (m : Nat → BitVec 32) (s : S8) : Nat → S8
  | 0 => s
  | t + 1 => step (rounds m s t) (nums.getD t 0) (msg m t)
def plus (s v : S8) : S8 := ⟨s.a + v.a, s.b + v.b, s.c + v.c, s.d + v.d, s.e + v.e, s.f + v.f, s.g + v.g, s.h + v.h⟩
def byteAt (l : List (BitVec 8)) (i : Nat) : BitVec 8 := l.getD i 0
/-- A block's words. -/
def words (l : List (BitVec 8)) (t : Nat) : BitVec 32 := wordOf (byteAt l (4 * t)) (byteAt l (4 * t + 1)) (byteAt l (4 * t + 2)) (byteAt l (4 * t + 3))
def block (s : S8) (l : List (BitVec 8)) : S8 := plus s (rounds (words l) s 64)
theorem S8.row_eq (s : S8) : s.row = wordRow s.words := rfl
def mixAt (s v : S8) (i : Nat) : List (BitVec 32) := (List.range 8).map fun j => if j < i then s.words.getD j 0 + v.words.getD j 0 else s.words.getD j 0
theorem mixAt_len (s v : S8) (i : Nat) : (mixAt s v i).length = 8 := by simp [mixAt]
theorem mixAt_zero (s v : S8) : mixAt s v 0 = s.words := rfl
theorem mixAt_end (s v : S8) : mixAt s v 8 = (plus s v).words := rfl
theorem mixAt_get (s v : S8) {i : Nat} (hi : i < 8) : (wordRow (mixAt s v i))[i]? = some (wv (s.words.getD i 0)) := by
  rw [wordRow_get _ _ (by rw [mixAt_len]; exact hi)]
  simp [mixAt]
theorem row_get (v : S8) {i : Nat} (hi : i < 8) : v.row[i]? = some (wv (v.words.getD i 0)) := by
  have hi' : i < v.words.length := hi
  rw [S8.row_eq, wordRow_get _ _ hi', List.getD_eq_getElem?_getD, List.getElem?_eq_getElem hi']
  rfl
theorem mixAt_set (s v : S8) {i : Nat} (hi : i < 8) : (wordRow (mixAt s v i)).set i (wv (s.words.getD i 0 + v.words.getD i 0)) = wordRow (mixAt s v (i + 1)) := by
  rw [wordRow_set]
  congr 1
  apply List.ext_getElem?
  intro j
  rw [List.getElem?_set, mixAt_len]
  unfold mixAt
  rw [List.getElem?_map, List.getElem?_map]
  by_cases hj : i = j
  · subst hj
    rw [if_pos rfl, if_pos hi, List.getElem?_range hi]
    simp
  · rw [if_neg hj]
    by_cases h8 : j < 8
    · rw [List.getElem?_range h8]
      simp only [Option.map_some]
      by_cases h1 : j < i
      · rw [if_pos h1, if_pos (by omega)]
      · rw [if_neg h1, if_neg (by omega)]
    · rw [List.getElem?_eq_none (by simpa using h8)]
      rfl
theorem nums_get {t : Nat} (ht : t < 64) : (wordRow nums)[t]? = some (wv (nums.getD t 0)) := by
  have h : t < nums.length := ht
  rw [wordRow_get _ _ h]
  congr 2
  rw [List.getD_eq_getElem?_getD, List.getElem?_eq_getElem h]
  rfl
/-! ### The message -/
def zerosOf (n : Nat) : Nat := (119 - n % 64) % 64
theorem zerosOf_mod (n : Nat) : (n + 1 + zerosOf n) % 64 = 56 := by unfold zerosOf; omega
theorem zerosOf_lt (n z : Nat) (h : z < zerosOf n) : (n + 1 + z) % 64 ≠ 56 := by unfold zerosOf at h; omega
/-- So many bytes of a number, the most significant one first. -/
def beBytes (k n : Nat) : List (BitVec 8) := (List.range k).map fun i => BitVec.ofNat 8 (n >>> (8 * (k - 1 - i)))
@[simp] theorem beBytes_len (k n : Nat) : (beBytes k n).length = k := by simp [beBytes]
theorem beBytes_take {k n i : Nat} (h : i < k) : (beBytes k n).take (i + 1) = (beBytes k n).take i ++ [BitVec.ofNat 8 (n >>> (8 * (k - 1 - i)))] := by
  rw [List.take_succ_eq_append_getElem (by simpa using h)]
  simp [beBytes]
theorem shr_byte (n j : Nat) (hj : 8 * j ≤ 64) : IntKind.u8.wrap ((n : Int).fdiv (2 ^ min (8 * j) IntKind.u64.bits)) = u8 (BitVec.ofNat 8 (n >>> (8 * j))) := by
  have e : IntKind.u64.bits = 64 := rfl
  rw [e, Nat.min_eq_left hj, wrap_u8, Int.fdiv_eq_ediv_of_nonneg _ (Int.pow_nonneg (by omega)), Nat.shiftRight_eq_div_pow]
  have h2 : (n : Int) / 2 ^ (8 * j) = ((n / 2 ^ (8 * j) : Nat) : Int) := by simp
  rw [h2, BitVec.ofInt_natCast]
def padded (l : List (BitVec 8)) : List (BitVec 8) := l ++ 0x80#8 :: (List.replicate (zerosOf l.length) 0#8 ++ beBytes 8 (l.length * 8))
theorem padded_len (l : List (BitVec 8)) : (padded l).length = l.length + 1 + zerosOf l.length + 8 := by
  simp [padded]; omega
theorem padded_mod (l : List (BitVec 8)) : (padded l).length % 64 = 0 := by
  rw [padded_len]
  have := zerosOf_mod l.length
  omega
/-- Over all blocks. -/
def blocks (s : S8) (l : List (BitVec 8)) : Nat → S8
  | 0 => s
  | n + 1 => block (blocks s l n) ((l.drop (64 * n)).take 64)
def S8.bytes (s : S8) : List (BitVec 8) := s.words.flatMap fun w => beBytes 4 w.toNat
@[simp] theorem S8.bytes_len (s : S8) : s.bytes.length = 32 := rfl
def sum (l : List (BitVec 8)) : List (BitVec 8) := (blocks start (padded l) ((padded l).length / 64)).bytes
@[simp] theorem sum_len (l : List (BitVec 8)) : (sum l).length = 32 := rfl
def tagged (tag l : List (BitVec 8)) : List (BitVec 8) := sum (sum tag ++ l)
@[simp] theorem tagged_len (tag l : List (BitVec 8)) : (tagged tag l).length = 32 := rfl
def z128 : List (BitVec 8) := List.replicate 128 0#8
set_option maxRecDepth 100000 in
theorem z128_row : (List.replicate 128 [PV.val (.int .u8 0)]).flatten = byteRow z128 := rfl
theorem z128_fill (R : List (BitVec 8)) (r : Nat) (hR : R.length = r) (hr : r < 64) : (setCells (byteRow z128) 0 ((byteRow R).take (min r 64))).set r (.val (.int .u8 128)) = byteRow (R ++ 0x80#8 :: List.replicate (127 - r) 0#8) := by
  rw [Nat.min_eq_left (by omega), List.take_of_length_le (by rw [byteRow_length]; omega)]
  have e : byteRow z128 = byteRow (List.replicate r 0#8) ++ (bv 0#8 :: byteRow (List.replicate (127 - r) 0#8)) := by
    have h1 : z128 = List.replicate r 0#8 ++ (0#8 :: List.replicate (127 - r) 0#8) := by
      unfold z128
      rw [← List.replicate_succ, List.replicate_append_replicate]
      congr 1
      omega
    rw [h1, byteRow_append]
    rfl
  rw [e, setCells_append_left _ _ _ _ (by rw [byteRow_length, byteRow_length, List.length_replicate]; omega), setCells_all _ _ (by rw [byteRow_length, byteRow_length, List.length_replicate]; omega)]
  rw [List.set_append_right _ _ (by rw [byteRow_length]; omega), byteRow_length, hR, Nat.sub_self, byteRow_append]
  rfl
def z32 : List (BitVec 8) := List.replicate 32 0#8
@[simp] theorem z32_len : z32.length = 32 := rfl
/-- A digest that is being written. -/
def dAt (s : S8) (i : Nat) : List (BitVec 8) := s.bytes.take i ++ List.replicate (32 - i) 0#8
theorem dAt_len (s : S8) {i : Nat} (h : i ≤ 32) : (dAt s i).length = 32 := by simp [dAt]; omega
theorem dAt_zero (s : S8) : dAt s 0 = z32 := rfl
theorem dAt_end (s : S8) : dAt s 32 = s.bytes := by
  unfold dAt
  rw [List.take_of_length_le (by simp)]
  simp
theorem bytes_get (s : S8) {i : Nat} (h : i < 32) : s.bytes[i]'(by simpa using h) = BitVec.ofNat 8 ((s.words.getD (i / 4) 0).toNat >>> (24 - 8 * (i % 4))) := by
  have key : ∀ ws : List (BitVec 32), ∀ i, i < 4 * ws.length → (ws.flatMap fun w => beBytes 4 w.toNat)[i]? = some (BitVec.ofNat 8 ((ws.getD (i / 4) 0).toNat >>> (24 - 8 * (i % 4)))) := by
    intro ws
    induction ws with
    | nil => intro i hi; simp at hi
    | cons w ws ih =>
      intro i hi
      rw [List.flatMap_cons]
      by_cases h4 : i < 4
      · rw [List.getElem?_append_left (by simpa using h4), List.getElem?_eq_getElem (by simpa using h4)]
        have e1 : i / 4 = 0 := by omega
        have e2 : i % 4 = i := by omega
        rw [e1, e2]
        simp only [beBytes, List.getElem_map, List.getElem_range, List.getD_cons_zero]
        rw [show 8 * (4 - 1 - i) = 24 - 8 * i by omega]
      · rw [List.getElem?_append_right (by simp; omega), beBytes_len, ih (i - 4) (by simp at hi; omega)]
        rw [show i / 4 = (i - 4) / 4 + 1 by omega, show i % 4 = (i - 4) % 4 by omega, List.getD_cons_succ]
  have := key s.words i (by show i < 32; exact h)
  have h2 : i < s.bytes.length := by simpa using h
  have h3 : s.bytes[i]? = some (s.bytes[i]'h2) := List.getElem?_eq_getElem h2
  exact Option.some.inj (h3.symm.trans this)
theorem dAt_set (s : S8) {i : Nat} (h : i < 32) : (byteRow (dAt s i)).set i (bv (BitVec.ofNat 8 ((s.words.getD (i / 4) 0).toNat >>> (24 - 8 * (i % 4))))) = byteRow (dAt s (i + 1)) := by
  rw [byteRow_set, ← bytes_get s h]
  congr 1
  unfold dAt
  have hl : (s.bytes.take i).length = i := by simp; omega
  rw [List.set_append_right _ _ (by omega), hl, Nat.sub_self, List.take_succ_eq_append_getElem (by simpa using h), List.append_assoc]
  congr 1
  rw [show 32 - i = (32 - (i + 1)) + 1 by omega, List.replicate_succ]
  rfl
theorem wrap_u8_u32 (w : BitVec 32) (k : Nat) : IntKind.u8.wrap (u32 (w >>> k)) = u8 (BitVec.ofNat 8 (w.toNat >>> k)) := by
  rw [wrap_u8]
  congr 1
theorem chunk_row (l : List (BitVec 8)) (m : Nat) : ((byteRow l).take (64 * m + 64)).drop (64 * m) = byteRow ((l.drop (64 * m)).take 64) := by
  rw [byteRow_take, byteRow_drop, List.drop_take, show 64 * m + 64 - 64 * m = 64 by omega]
/-- Bytes into which a number is being written, from behind. -/
def pAt (X : List (BitVec 8)) (n i : Nat) : List (BitVec 8) := X.take (X.length - i) ++ (beBytes X.length n).drop (X.length - i)
theorem pAt_zero (X : List (BitVec 8)) (n : Nat) : pAt X n 0 = X := by
  unfold pAt
  rw [Nat.sub_zero, List.take_of_length_le (by omega), List.drop_of_length_le (by simp), List.append_nil]
theorem pAt_end (X : List (BitVec 8)) (n : Nat) : pAt X n X.length = beBytes X.length n := by
  unfold pAt
  rw [Nat.sub_self, List.take_zero, List.drop_zero, List.nil_append]
theorem pAt_len (X : List (BitVec 8)) (n : Nat) {i : Nat} (h : i ≤ X.length) : (pAt X n i).length = X.length := by
  unfold pAt
  simp
theorem pAt_set (X : List (BitVec 8)) (n : Nat) {i : Nat} (h : i < X.length) : (pAt X n i).set (X.length - 1 - i) (BitVec.ofNat 8 (n >>> (8 * i))) = pAt X n (i + 1) := by
  unfold pAt
  have e1 : X.length - i = (X.length - (i + 1)) + 1 := by omega
  have e2 : X.length - 1 - i = X.length - (i + 1) := by omega
  have hlt : X.length - (i + 1) < X.length := by omega
  rw [e2, e1, List.take_succ_eq_append_getElem hlt, List.append_assoc, List.set_append_right _ _ (by simp)]
  have hl : (X.take (X.length - (i + 1))).length = X.length - (i + 1) := by simp
  rw [hl, Nat.sub_self]
  congr 1
  have hd := List.drop_eq_getElem_cons (l := beBytes X.length n) (i := X.length - (i + 1)) (by simpa using hlt)
  rw [hd]
  have hg : (beBytes X.length n)[X.length - (i + 1)]'(by simpa using hlt) = BitVec.ofNat 8 (n >>> (8 * i)) := by
    simp only [beBytes, List.getElem_map, List.getElem_range]
    rw [show X.length - 1 - (X.length - (i + 1)) = i by omega]
  rw [hg]
  rfl
/-- Such bytes in the middle of a row. -/
def rowP (A : List PV) (X : List (BitVec 8)) (C : List PV) (n i : Nat) : List PV := A ++ (byteRow (pAt X n i) ++ C)
theorem rowP_zero (A : List PV) (X : List (BitVec 8)) (C : List PV) (n : Nat) : rowP A X C n 0 = A ++ (byteRow X ++ C) := by unfold rowP; rw [pAt_zero]
theorem rowP_end (A : List PV) (X : List (BitVec 8)) (C : List PV) (n : Nat) : rowP A X C n X.length = A ++ (byteRow (beBytes X.length n) ++ C) := by unfold rowP; rw [pAt_end]
theorem rowP_len (A : List PV) (X : List (BitVec 8)) (C : List PV) (n : Nat) {i : Nat} (h : i ≤ X.length) : (rowP A X C n i).length = A.length + (X.length + C.length) := by
  unfold rowP
  simp [pAt_len X n h]
theorem rowP_set (A : List PV) (X : List (BitVec 8)) (C : List PV) (n : Nat) {i : Nat} (h : i < X.length) : (rowP A X C n i).set (A.length + (X.length - 1 - i)) (bv (BitVec.ofNat 8 (n >>> (8 * i)))) = rowP A X C n (i + 1) := by
  unfold rowP
  rw [List.set_append_right _ _ (by omega), Nat.add_sub_cancel_left, List.set_append_left _ _ (by rw [byteRow_length, pAt_len X n (by omega)]; omega), byteRow_set, pAt_set X n h]
theorem bytes_take (s : S8) {i : Nat} (h : i < 8) : s.bytes.take (4 * (i + 1)) = s.bytes.take (4 * i) ++ beBytes 4 (s.words.getD i 0).toNat := by
  match i, h with
  | 0, _ => rfl
  | 1, _ => rfl
  | 2, _ => rfl
  | 3, _ => rfl
  | 4, _ => rfl
  | 5, _ => rfl
  | 6, _ => rfl
  | 7, _ => rfl
theorem wrap_u64_u32 (x : BitVec 32) : IntKind.u64.wrap (u32 x) = (x.toNat : Int) := by
  have := x.isLt
  exact u64_in (by unfold u32; omega) (by unfold u32; omega)
theorem dAt_parts (s : S8) {i : Nat} (h : i < 8) : byteRow (dAt s (4 * i)) = byteRow (s.bytes.take (4 * i)) ++ (byteRow (List.replicate 4 0#8) ++ byteRow (List.replicate (28 - 4 * i) 0#8)) := by
  rw [← byteRow_append, ← byteRow_append]
  unfold dAt
  rw [List.replicate_append_replicate]
  congr 3
  omega
theorem dAt_parts2 (s : S8) {i : Nat} (h : i < 8) : byteRow (s.bytes.take (4 * i)) ++ (byteRow (beBytes 4 (s.words.getD i 0).toNat) ++ byteRow (List.replicate (28 - 4 * i) 0#8)) = byteRow (dAt s (4 * (i + 1))) := by
  rw [← byteRow_append, ← byteRow_append]
  unfold dAt
  rw [bytes_take s h, List.append_assoc]
  congr 4
  omega
end Sha
end Go.Pv
