/- Leading zeros. -/
import Derived.Test.YtokkkmfbejgccaaGreatG57G
import Derived.Test.YtokkkmfbejgccaaGreatLKd
namespace Go.Proofs.YtokkkmfbejgccaaGreat
open Go.Pv
set_option maxRecDepth 100000
theorem tab_ok : ∀ y : Fin 256, (((⟨#[0, 1, 2, 2, 3, 3, 3, 3, 4, 4, 4, 4, 4, 4, 4, 4, 5, 5, 5, 5, 5, 5, 5, 5, 5, 5, 5, 5, 5, 5, 5, 5, 6, 6, 6, 6, 6, 6, 6, 6, 6, 6, 6, 6, 6, 6, 6, 6, 6, 6, 6, 6, 6, 6, 6, 6, 6, 6, 6, 6, 6, 6, 6, 6, 7, 7, 7, 7, 7, 7, 7, 7, 7, 7, 7, 7, 7, 7, 7, 7, 7, 7, 7, 7, 7, 7, 7, 7, 7, 7, 7, 7, 7, 7, 7, 7, 7, 7, 7, 7, 7, 7, 7, 7, 7, 7, 7, 7, 7, 7, 7, 7, 7, 7, 7, 7, 7, 7, 7, 7, 7, 7, 7, 7, 7, 7, 7, 7, 8, 8, 8, 8, 8, 8, 8, 8, 8, 8, 8, 8, 8, 8, 8, 8, 8, 8, 8, 8, 8, 8, 8, 8, 8, 8, 8, 8, 8, 8, 8, 8, 8, 8, 8, 8, 8, 8, 8, 8, 8, 8, 8, 8, 8, 8, 8, 8, 8, 8, 8, 8, 8, 8, 8, 8, 8, 8, 8, 8, 8, 8, 8, 8, 8, 8, 8, 8, 8, 8, 8, 8, 8, 8, 8, 8, 8, 8, 8, 8, 8, 8, 8, 8, 8, 8, 8, 8, 8, 8, 8, 8, 8, 8, 8, 8, 8, 8, 8, 8, 8, 8, 8, 8, 8, 8, 8, 8, 8, 8, 8, 8, 8, 8, 8, 8, 8, 8, 8, 8, 8, 8, 8, 8, 8, 8, 8, 8]⟩ : ByteArray)[y.1]?).map fun c => decide (y.1 = 0 ∨ 2 ^ c.toNat ≤ 2 * y.1) && decide (y.1 < 2 ^ c.toNat) && decide (c.toNat ≤ 8)) = some true := by decide
theorem tab_get {y : Nat} (h0 : 0 < y) (h : y < 256) : ∃ c, (⟨#[0, 1, 2, 2, 3, 3, 3, 3, 4, 4, 4, 4, 4, 4, 4, 4, 5, 5, 5, 5, 5, 5, 5, 5, 5, 5, 5, 5, 5, 5, 5, 5, 6, 6, 6, 6, 6, 6, 6, 6, 6, 6, 6, 6, 6, 6, 6, 6, 6, 6, 6, 6, 6, 6, 6, 6, 6, 6, 6, 6, 6, 6, 6, 6, 7, 7, 7, 7, 7, 7, 7, 7, 7, 7, 7, 7, 7, 7, 7, 7, 7, 7, 7, 7, 7, 7, 7, 7, 7, 7, 7, 7, 7, 7, 7, 7, 7, 7, 7, 7, 7, 7, 7, 7, 7, 7, 7, 7, 7, 7, 7, 7, 7, 7, 7, 7, 7, 7, 7, 7, 7, 7, 7, 7, 7, 7, 7, 7, 8, 8, 8, 8, 8, 8, 8, 8, 8, 8, 8, 8, 8, 8, 8, 8, 8, 8, 8, 8, 8, 8, 8, 8, 8, 8, 8, 8, 8, 8, 8, 8, 8, 8, 8, 8, 8, 8, 8, 8, 8, 8, 8, 8, 8, 8, 8, 8, 8, 8, 8, 8, 8, 8, 8, 8, 8, 8, 8, 8, 8, 8, 8, 8, 8, 8, 8, 8, 8, 8, 8, 8, 8, 8, 8, 8, 8, 8, 8, 8, 8, 8, 8, 8, 8, 8, 8, 8, 8, 8, 8, 8, 8, 8, 8, 8, 8, 8, 8, 8, 8, 8, 8, 8, 8, 8, 8, 8, 8, 8, 8, 8, 8, 8, 8, 8, 8, 8, 8, 8, 8, 8, 8, 8, 8, 8, 8, 8]⟩ : ByteArray)[y]? = some c ∧ 2 ^ c.toNat ≤ 2 * y ∧ y < 2 ^ c.toNat ∧ c.toNat ≤ 8 := by
  have := tab_ok ⟨y, h⟩
  simp only [Option.map_eq_some_iff, Bool.and_eq_true, decide_eq_true_eq] at this
  obtain ⟨c, h1, ⟨h2, h3⟩, h4⟩ := this
  exact ⟨c, h1, h2.resolve_left (by omega), h3, h4⟩
theorem fd8 (y : Nat) : ((y : Int)).fdiv (2 ^ min 8 IntKind.u64.bits) = (y / 256 : Nat) := by
  have e : (2 : Int) ^ min 8 IntKind.u64.bits = 256 := rfl
  rw [e, Int.fdiv_eq_ediv_of_nonneg _ (by omega)]; rfl
theorem fd16 (y : Nat) : ((y : Int)).fdiv (2 ^ min 16 IntKind.u64.bits) = (y / 65536 : Nat) := by
  have e : (2 : Int) ^ min 16 IntKind.u64.bits = 65536 := rfl
  rw [e, Int.fdiv_eq_ediv_of_nonneg _ (by omega)]; rfl
theorem u8_in {y : Nat} (h : y < 256) : IntKind.u8.wrap (y : Int) = y := by
  have : IntKind.u8.wrap (y : Int) = (y : Int) % 256 := rfl
  omega
theorem len64_spec (x : Nat) (hx0 : 0 < x) (hx : x < 1073741824) (st : Store) : ∃ m : Nat, Rets P F.math_bits_Len64 [.val (.int .u64 x)] st (.int m) ∧ m ≤ 32 ∧ 2 ^ m ≤ 2 * x ∧ x < 2 ^ m := by
  have n1 : ¬ (4294967296 : Int) ≤ x := by omega
  have v1 : IntKind.i64.wrap 16 = 16 := wrap_in (by decide) (by decide)
  have v2 : IntKind.i64.wrap 24 = 24 := wrap_in (by decide) (by decide)
  have v3 : IntKind.i64.wrap 8 = 8 := wrap_in (by decide) (by decide)
  by_cases a1 : 65536 ≤ x
  · by_cases a2 : 16777216 ≤ x
    · obtain ⟨y, hy⟩ : ∃ y, y = x / 65536 / 256 := ⟨_, rfl⟩
      obtain ⟨c, h1, h2, h3, h4⟩ := tab_get (y := y) (by omega) (by omega)
      refine ⟨24 + c.toNat, ?_, by omega, ?_, ?_⟩
      · have w0 : IntKind.u8.wrap (y : Int) = y := u8_in (by omega)
        have w1 : IntKind.i64.wrap ((24 : Int) + c.toNat) = (24 : Int) + c.toNat := wrap_in (by omega) (by omega)
        have w2 : IntKind.i64.wrap (c.toNat : Int) = (c.toNat : Int) := wrap_in (by omega) (by omega)
        have m1 : (65536 : Int) ≤ x := by omega
        have m2 : 0 < y := by omega
        obtain ⟨z, hz⟩ : ∃ z, z = x / 65536 := ⟨_, rfl⟩
        rw [← hz] at hy
        have k1 : ((x : Int)).fdiv (2 ^ min 16 IntKind.u64.bits) = z := by rw [hz]; exact fd16 x
        have k2 : ((z : Int)).fdiv (2 ^ min 8 IntKind.u64.bits) = y := by rw [hy]; exact fd8 z
        have m3 : (256 : Int) ≤ z := by omega
        clear hz
        refine H.math_bits_Len64.pure hmix rfl rfl ?_
        clear hy h2 h3 h4 hx hx0
        repeat' (simp -dsimp -implicitDefEqProofs [*])
      · have e : 2 ^ (24 + c.toNat) = 16777216 * 2 ^ c.toNat := Nat.pow_add ..
        omega
      · have e : 2 ^ (24 + c.toNat) = 16777216 * 2 ^ c.toNat := Nat.pow_add ..
        omega
    · obtain ⟨y, hy⟩ : ∃ y, y = x / 65536 := ⟨_, rfl⟩
      obtain ⟨c, h1, h2, h3, h4⟩ := tab_get (y := y) (by omega) (by omega)
      refine ⟨16 + c.toNat, ?_, by omega, ?_, ?_⟩
      · have w0 : IntKind.u8.wrap (y : Int) = y := u8_in (by omega)
        have w1 : IntKind.i64.wrap ((16 : Int) + c.toNat) = (16 : Int) + c.toNat := wrap_in (by omega) (by omega)
        have w2 : IntKind.i64.wrap (c.toNat : Int) = (c.toNat : Int) := wrap_in (by omega) (by omega)
        have m1 : (65536 : Int) ≤ x := by omega
        have m2 : 0 < y := by omega
        have k1 : ((x : Int)).fdiv (2 ^ min 16 IntKind.u64.bits) = y := by rw [hy]; exact fd16 x
        have m3 : ¬ (256 : Int) ≤ y := by omega
        refine H.math_bits_Len64.pure hmix rfl rfl ?_
        clear hy h2 h3 h4 hx hx0
        repeat' (simp -dsimp -implicitDefEqProofs [*])
      · have e : 2 ^ (16 + c.toNat) = 65536 * 2 ^ c.toNat := Nat.pow_add ..
        omega
      · have e : 2 ^ (16 + c.toNat) = 65536 * 2 ^ c.toNat := Nat.pow_add ..
        omega
  · by_cases a2 : 256 ≤ x
    · obtain ⟨y, hy⟩ : ∃ y, y = x / 256 := ⟨_, rfl⟩
      obtain ⟨c, h1, h2, h3, h4⟩ := tab_get (y := y) (by omega) (by omega)
      refine ⟨8 + c.toNat, ?_, by omega, ?_, ?_⟩
      · have w0 : IntKind.u8.wrap (y : Int) = y := u8_in (by omega)
        have w1 : IntKind.i64.wrap ((8 : Int) + c.toNat) = (8 : Int) + c.toNat := wrap_in (by omega) (by omega)
        have w2 : IntKind.i64.wrap (c.toNat : Int) = (c.toNat : Int) := wrap_in (by omega) (by omega)
        have m1 : ¬ (65536 : Int) ≤ x := by omega
        have m2 : (256 : Int) ≤ x := by omega
        have k1 : ((x : Int)).fdiv (2 ^ min 8 IntKind.u64.bits) = y := by rw [hy]; exact fd8 x
        refine H.math_bits_Len64.pure hmix rfl rfl ?_
        clear hy h2 h3 h4 hx hx0
        repeat' (simp -dsimp -implicitDefEqProofs [*])
      · have e : 2 ^ (8 + c.toNat) = 256 * 2 ^ c.toNat := Nat.pow_add ..
        omega
      · have e : 2 ^ (8 + c.toNat) = 256 * 2 ^ c.toNat := Nat.pow_add ..
        omega
    · obtain ⟨y, hy⟩ : ∃ y, y = x := ⟨_, rfl⟩
      obtain ⟨c, h1, h2, h3, h4⟩ := tab_get (y := y) (by omega) (by omega)
      refine ⟨0 + c.toNat, ?_, by omega, ?_, ?_⟩
      · have w0 : IntKind.u8.wrap (y : Int) = y := u8_in (by omega)
        have w1 : IntKind.i64.wrap ((0 : Int) + c.toNat) = (0 : Int) + c.toNat := wrap_in (by omega) (by omega)
        have w2 : IntKind.i64.wrap (c.toNat : Int) = (c.toNat : Int) := wrap_in (by omega) (by omega)
        have m1 : ¬ (65536 : Int) ≤ x := by omega
        have m2 : ¬ (256 : Int) ≤ x := by omega
        subst hy
        refine H.math_bits_Len64.pure hmix rfl rfl ?_
        clear h2 h3 h4 hx hx0
        repeat' (simp -dsimp -implicitDefEqProofs [*])
      · have e : 2 ^ (0 + c.toNat) = 1 * 2 ^ c.toNat := Nat.pow_add ..
        omega
      · have e : 2 ^ (0 + c.toNat) = 1 * 2 ^ c.toNat := Nat.pow_add ..
        omega
/-- How far a digit is moved. -/
theorem lz_spec (x : Nat) (hx0 : 0 < x) (hx : x < 1073741824) (st : Store) : ∃ s : Nat, Rets P F.math_bits_LeadingZeros64 [.val (.int .u64 x)] st (.int ((s : Int) + 34)) ∧ s < 30 ∧ 536870912 ≤ x * 2 ^ s ∧ x * 2 ^ s < 1073741824 := by
  obtain ⟨m, hm, h1, h2, h3⟩ := len64_spec x hx0 hx st
  have hm30 : m ≤ 30 := by
    apply Nat.le_of_not_lt
    intro h
    have := Nat.pow_le_pow_right (n := 2) (by decide) (show 31 ≤ m by omega)
    omega
  have hm0 : 0 < m := by
    apply Nat.pos_of_ne_zero
    rintro rfl
    omega
  refine ⟨30 - m, ?_, by omega, ?_, ?_⟩
  · have w1 : IntKind.i64.wrap (64 - (m : Int)) = ((30 - m : Nat) : Int) + 34 := by rw [wrap_in (by omega) (by omega)]; omega
    obtain ⟨s, hs⟩ : ∃ s, s = 30 - m := ⟨_, rfl⟩
    rw [← hs] at w1 ⊢
    clear hs h2 h3
    refine H.math_bits_LeadingZeros64.pure hmix rfl rfl ?_
    repeat' (first 
     | (with_reducible refine Rets.xcall (hm) ?_)
     | (simp -dsimp -implicitDefEqProofs [*]))
  · have e : 2 ^ m * 2 ^ (30 - m) = 1073741824 := by rw [← Nat.pow_add, show m + (30 - m) = 30 by omega]
    have := Nat.mul_le_mul_right (2 ^ (30 - m)) h2
    rw [Nat.mul_assoc] at this
    omega
  · have e : 2 ^ m * 2 ^ (30 - m) = 1073741824 := by rw [← Nat.pow_add, show m + (30 - m) = 30 by omega]
    have := Nat.mul_lt_mul_of_pos_right h3 (Nat.pow_pos (n := 30 - m) (show 0 < 2 by decide))
    omega
end Go.Proofs.YtokkkmfbejgccaaGreat
