/- Bits of small numbers in ints. -/
import Derived.Test.YtgjgcflgjpigpaaLBn
namespace Go.Pv
section
variable (a b : Nat) (K : PV → Prop)
@[simp high] theorem xand_nat (ha : a < 4611686018427387904) (hb : b < 4611686018427387904) : xbin .and (.val (.int .i64 (a : Int))) (.val (.int .i64 (b : Int))) K = K (.val (.int .i64 ((a &&& b : Nat) : Int))) := by
  have h : IntKind.i64.wrap ((BitVec.ofInt 64 (a : Int) &&& BitVec.ofInt 64 (b : Int)).toNat : Int) = ((a &&& b : Nat) : Int) := by
    rw [BitVec.toNat_and, ofInt_toNat, ofInt_toNat]
    have h1 : (((a : Int)) % ((2 ^ 64 : Nat) : Int)).toNat = a := by omega
    have h2 : (((b : Int)) % ((2 ^ 64 : Nat) : Int)).toNat = b := by omega
    rw [h1, h2]
    have := Nat.and_le_left (n := a) (m := b)
    exact wrap_in (by omega) (by omega)
  rw [bin_and]
  show (IntKind.i64 = IntKind.i64 ∧ K (.val (.int .i64 (IntKind.i64.wrap ((BitVec.ofInt 64 (a : Int) &&& BitVec.ofInt 64 (b : Int)).toNat : Int))))) = _
  rw [h]
  simp
@[simp high] theorem xand_one (ha : a < 4611686018427387904) : xbin .and (.val (.int .i64 (a : Int))) (.val (.int .i64 1)) K = K (.val (.int .i64 ((a % 2 : Nat) : Int))) := by
  have := xand_nat a 1 K ha (by decide)
  rw [Nat.and_one_is_mod] at this
  exact this
@[simp high] theorem xshr_nat (hb : b < 64) : xbin .shr (.val (.int .i64 (a : Int))) (.val (.int .i64 (b : Int))) K = K (.val (.int .i64 ((a / 2 ^ b : Nat) : Int))) := by
  rw [bin_shr]
  have e : min (b : Int).toNat IntKind.i64.bits = b := by
    show min (b : Int).toNat 64 = b
    omega
  rw [e, Int.fdiv_eq_ediv_of_nonneg _ (Int.le_of_lt (Int.pow_pos (by decide)))]
  have e2 : ((a : Int) / 2 ^ b) = ((a / 2 ^ b : Nat) : Int) := by
    rw [Int.natCast_ediv, Int.natCast_pow]
    rfl
  rw [e2]
  simp
@[simp high] theorem xshl_one (hb : b ≤ 40) : xbin .shl (.val (.int .i64 1)) (.val (.int .i64 (b : Int))) K = K (.val (.int .i64 ((2 ^ b : Nat) : Int))) := by
  rw [bin_shl]
  have e : min (b : Int).toNat IntKind.i64.bits = b := by
    show min (b : Int).toNat 64 = b
    omega
  have h1 : 2 ^ b ≤ 2 ^ 40 := Nat.pow_le_pow_right (by decide) hb
  have h2 : ((2 : Int) ^ b) = ((2 ^ b : Nat) : Int) := by rw [Int.natCast_pow]; rfl
  rw [e, Int.one_mul, h2]
  generalize 2 ^ b = p at *
  rw [wrap_in (by omega) (by omega)]
  simp
end
end Go.Pv
