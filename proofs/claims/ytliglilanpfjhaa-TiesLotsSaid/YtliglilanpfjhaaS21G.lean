/- Package nat: division by one digit. -/
import Derived.Test.YtliglilanpfjhaaS21E
import Derived.Test.YtliglilanpfjhaaLKd
namespace Go.Proofs.Ytliglilanpfjhaa
open Go.Pv
set_option maxRecDepth 100000
theorem short_spec (t : Bool) (A : List Int) (a d : Nat) (eA : dv A = a) (hA : dOk A) (hla : A.length ≤ 50000) (hd : 0 < d) (hd2 : d ≤ 1073741824) (st : Store) : Rets P F.nat_short [intLst t A, .int d] st (.tuple [intLst false (digs (a / d)), .int (a % d : Nat)]) := by
  refine H.nat_short.view hmix rfl rfl ?_
  have hent := H.slices_Backward__natdigits_int_1.enters
  have kE : Hid (dv A = a ∧ dOk A) := ⟨eA, hA⟩
  clear eA hA
  repeat' (first 
   | (with_reducible refine Fresh.intro fun b hb => ?_) <;> (try simp -dsimp -implicitDefEqProofs [*] at hb)
   | (with_reducible refine Rets.xcall (down_spec _ _ _) ?_)
   | ((with_reducible refine and_keep ?_ fun hk => ?_); omega)
   | (simp -dsimp -implicitDefEqProofs [*]))
  revert b
  revert b
  revert b
  revert b
  intro p3 h3 p4 h4 p5 h5 q hq
  have dq : 0 < (d : Int) := by omega
  refine xrange_func hent fun key hkey lp hlp => ?_
  simp -dsimp -implicitDefEqProofs [*] at hlp
  rw [← intRow_rep]
  refine xcall_post (backward1_gives t A (by omega) (List Int × Int) (fun s => (lp, .loop key _ .ready none) :: (q, .arr T.int (intRow s.1)) :: (p5, .arr T.int [.int s.2]) :: (p4, .arr T.natdigits [.own q 0 A.length A.length]) :: (p3, .arr T.int [.int d]) :: st)
    (fun i s => Hid (ShInv A s.1 d s.2 (A.length - i))) (fun _ => False) lp ?_ (List.replicate A.length 0, 0) ⟨.start A dq⟩) ?_
  · rintro i ⟨Q, r⟩ hI hil
    simp only at hI
    obtain ⟨j, hj⟩ : ∃ j, j = A.length - 1 - i := ⟨_, rfl⟩
    have hjl : j < A.length := by omega
    have hI2 : ShInv A Q d r (j + 1) := by have := hI.out; rwa [show A.length - i = j + 1 by omega] at this
    have hjq : j < Q.length := by rw [hI2.len]; exact hjl
    have lq := hI2.len
    have a1 := dOk_get kE.out.2 hjl
    have r0 := hI2.r0
    have rd := hI2.rd
    have e1 : A.length - (i + 1) = j := by omega
    have hS : Hid (ShInv A (Q.set j ((r * 1073741824 + A[j]).tdiv d)) d ((r * 1073741824 + A[j]).tmod d) (A.length - (i + 1))) := ⟨by
      have hge : 0 ≤ r * 1073741824 + A[j] := by omega
      rw [Int.tdiv_eq_ediv_of_nonneg hge, Int.tmod_eq_emod_of_nonneg hge, e1]
      exact hI2.step dq kE.out.2 hjl⟩
    simp only [← hj, dAt_lt hjl]
    unfold BB at a1
    have w1 : IntKind.i64.wrap (r * 2 ^ min 30 IntKind.i64.bits) = r * 1073741824 := shl30 (by omega) (by omega)
    have r2 : r ≤ 8589934591 := by omega
    obtain ⟨a1, a2⟩ := a1
    have r4 : 0 ≤ (r * 1073741824 + A[j]).tdiv d ∧ (r * 1073741824 + A[j]).tdiv d ≤ 9223372036854775807 := by
      have hge : 0 ≤ r * 1073741824 + A[j] := by omega
      rw [Int.tdiv_eq_ediv_of_nonneg hge]
      have := Int.ediv_le_self d hge
      exact ⟨Int.ediv_nonneg hge (by omega), by omega⟩
    have w3 : IntKind.i64.wrap ((r * 1073741824 + A[j]).tdiv d) = (r * 1073741824 + A[j]).tdiv d := wrap_in (by omega) (by omega)
    have nd : ¬ d = 0 := by omega
    clear hI hI2 hj hent e1
    refine pround_walkS hmix hkey (by simp; rfl) rfl ?_
    clear hkey
    repeat' (simp -dsimp -implicitDefEqProofs [*])
    refine DrawLate.intro [q] ?_
    repeat' (first 
     | ((with_reducible refine and_keep ?_ fun hk => ?_); omega)
     | (simp -dsimp -implicitDefEqProofs [*]))
    rw [intRow_set]
    exact ⟨_, StLe.refl _, _, _, rfl, hS⟩
  · rintro e st' ⟨rfl, ⟨Q, r⟩, rfl, h | h⟩
    · rw [Nat.sub_self] at h
      have hf := h.out.fin kE.out.1 rfl
      have lq := h.out.len
      rw [← hf.2, ← hf.1]
      clear hf h
      simp only at lq ⊢
      have ht := trim_own q A.length Q [] (by omega) (by omega) ((q, .arr T.int (intRow Q)) :: (p5, .arr T.int [.int r]) :: (p4, .arr T.natdigits [.own q 0 A.length A.length]) :: (p3, .arr T.int [.int d]) :: st) (by simp)
      rw [lq] at ht
      repeat' (simp -dsimp -implicitDefEqProofs [*])
      refine DrawLate.intro [p4] ?_
      repeat' (first 
       | (with_reducible refine Rets.xcall (ht) ?_)
       | (with_reducible refine Cls_and ?_ ?_)
       | (with_reducible exact Cls.self _ _)
       | (with_reducible refine Cls_same ?_)
       | (with_reducible refine Cls_in ?_ ?_)
       | (simp -dsimp -implicitDefEqProofs [*]))
      refine .trim2 (by simp [*]) (by omega) (by omega) ?_
      exact RetView.drop (st' := st) (by repeat' (first | exact StLe.refl _ | (refine StLe_cons (by simp [*]; done) ?_) | (refine StLe_fresh (by simp [*]; done) ?_))) ⟨rfl, rfl⟩
    · exact h.elim
end Go.Proofs.Ytliglilanpfjhaa
/- Leading zeros. -/
namespace Go.Proofs.Ytliglilanpfjhaa
open Go.Pv
set_option maxRecDepth 100000
theorem tab_ok : ∀ y : Fin 256, (((⟨#[0, 1, 2, 2, 3, 3, 3, 3, 4, 4, 4, 4, 4, 4, 4, 4, 5, 5, 5, 5, 5, 5, 5, 5, 5, 5, 5, 5, 5, 5, 5, 5, 6, 6, 6, 6, 6, 6, 6, 6, 6, 6, 6, 6, 6, 6, 6, 6, 6, 6, 6, 6, 6, 6, 6, 6, 6, 6, 6, 6, 6, 6, 6, 6, 7, 7, 7, 7, 7, 7, 7, 7, 7, 7, 7, 7, 7, 7, 7, 7, 7, 7, 7, 7, 7, 7, 7, 7, 7, 7, 7, 7, 7, 7, 7, 7, 7, 7, 7, 7, 7, 7, 7, 7, 7, 7, 7, 7, 7, 7, 7, 7, 7, 7, 7, 7, 7, 7, 7, 7, 7, 7, 7, 7, 7, 7, 7, 7, 8, 8, 8, 8, 8, 8, 8, 8, 8, 8, 8, 8, 8, 8, 8, 8, 8, 8, 8, 8, 8, 8, 8, 8, 8, 8, 8, 8, 8, 8, 8, 8, 8, 8, 8, 8, 8, 8, 8, 8, 8, 8, 8, 8, 8, 8, 8, 8, 8, 8, 8, 8, 8, 8, 8, 8, 8, 8, 8, 8, 8, 8, 8, 8, 8, 8, 8, 8, 8, 8, 8, 8, 8, 8, 8, 8, 8, 8, 8, 8, 8, 8, 8, 8, 8, 8, 8, 8, 8, 8, 8, 8, 8, 8, 8, 8, 8, 8, 8, 8, 8, 8, 8, 8, 8, 8, 8, 8, 8, 8, 8, 8, 8, 8, 8, 8, 8, 8, 8, 8, 8, 8, 8, 8, 8, 8, 8, 8]⟩ : ByteArray)[y.1]?).map fun c => decide (y.1 = 0 ∨ 2 ^ c.toNat ≤ 2 * y.1) && decide (y.1 < 2 ^ c.toNat) && decide (c.toNat ≤ 8)) = some true := by decide
theorem tab_get {y : Nat} (h0 : 0 < y) (h : y < 256) : ∃ c, (⟨#[0, 1, 2, 2, 3, 3, 3, 3, 4, 4, 4, 4, 4, 4, 4, 4, 5, 5, 5, 5, 5, 5, 5, 5, 5, 5, 5, 5, 5, 5, 5, 5, 6, 6, 6, 6, 6, 6, 6, 6, 6, 6, 6, 6, 6, 6, 6, 6, 6, 6, 6, 6, 6, 6, 6, 6, 6, 6, 6, 6, 6, 6, 6, 6, 7, 7, 7, 7, 7, 7, 7, 7, 7, 7, 7, 7, 7, 7, 7, 7, 7, 7, 7, 7, 7, 7, 7, 7, 7, 7, 7, 7, 7, 7, 7, 7, 7, 7, 7, 7, 7, 7, 7, 7, 7, 7, 7, 7, 7, 7, 7, 7, 7, 7, 7, 7, 7, 7, 7, 7, 7, 7, 7, 7, 7, 7, 7, 7, 8, 8, 8, 8, 8, 8, 8, 8, 8, 8, 8, 8, 8, 8, 8, 8, 8, 8, 8, 8, 8, 8, 8, 8, 8, 8, 8, 8, 8, 8, 8, 8, 8, 8, 8, 8, 8, 8, 8, 8, 8, 8, 8, 8, 8, 8, 8, 8, 8, 8, 8, 8, 8, 8, 8, 8, 8, 8, 8, 8, 8, 8, 8, 8, 8, 8, 8, 8, 8, 8, 8, 8, 8, 8, 8, 8, 8, 8, 8, 8, 8, 8, 8, 8, 8, 8, 8, 8, 8, 8, 8, 8, 8, 8, 8, 8, 8, 8, 8, 8, 8, 8, 8, 8, 8, 8, 8, 8, 8, 8, 8, 8, 8, 8, 8, 8, 8, 8, 8, 8, 8, 8, 8, 8, 8, 8, 8, 8]⟩ : ByteArray)[y]? = some c ∧ 2 ^ c.toNat ≤ 2 * y ∧ y < 2 ^ c.toNat ∧ c.toNat ≤ 8 := by
  have := tab_ok ⟨y, h⟩
  simp only [Option.map_eq_some_iff, Bool.and_eq_true, decide_eq_true_eq] at this
  obtain ⟨c, h1, ⟨h2, h3⟩, h4⟩ := this
  exact ⟨c, h1, h2.resolve_left (by omega), h3, h4⟩
theorem fd8 (y : Nat) : ((y : Int)).fdiv (2 ^ min 8 IntKind.u64.bits) = (y / 256 : Nat) := by
  have e : (2 : Int) ^ min 8 IntKind.u64.bits = 256 := rfl
  rw [e, Int.fdiv_eq_ediv_of_nonneg _ (by omega)]; rfl
theorem fd16 (y : Nat) : ((y : Int)).fdiv (2 ^ min 16 IntKind.u64.bits) = (y / 65536 : Nat) := by
  have e : (2 : Int) ^ min 16 IntKind.u64.bits = 65536 := rfl
  rw [e, Int.fdiv_eq_ediv_of_nonneg _ (by omega)]; rfl
theorem u8_in {y : Nat} (h : y < 256) : IntKind.u8.wrap (y : Int) = y := by
  have : IntKind.u8.wrap (y : Int) = (y : Int) % 256 := rfl
  omega
theorem len64_spec (x : Nat) (hx0 : 0 < x) (hx : x < 1073741824) (st : Store) : ∃ m : Nat, Rets P F.math_bits_Len64 [.val (.int .u64 x)] st (.int m) ∧ m ≤ 32 ∧ 2 ^ m ≤ 2 * x ∧ x < 2 ^ m := by
  have n1 : ¬ (4294967296 : Int) ≤ x := by omega
  have v1 : IntKind.i64.wrap 16 = 16 := wrap_in (by decide) (by decide)
  have v2 : IntKind.i64.wrap 24 = 24 := wrap_in (by decide) (by decide)
  have v3 : IntKind.i64.wrap 8 = 8 := wrap_in (by decide) (by decide)
  by_cases a1 : 65536 ≤ x
  · by_cases a2 : 16777216 ≤ x
    · obtain ⟨y, hy⟩ : ∃ y, y = x / 65536 / 256 := ⟨_, rfl⟩
      obtain ⟨c, h1, h2, h3, h4⟩ := tab_get (y := y) (by omega) (by omega)
      refine ⟨24 + c.toNat, ?_, by omega, ?_, ?_⟩
      · have w0 : IntKind.u8.wrap (y : Int) = y := u8_in (by omega)
        have w1 : IntKind.i64.wrap ((24 : Int) + c.toNat) = (24 : Int) + c.toNat := wrap_in (by omega) (by omega)
        have w2 : IntKind.i64.wrap (c.toNat : Int) = (c.toNat : Int) := wrap_in (by omega) (by omega)
        have m1 : (65536 : Int) ≤ x := by omega
        have m2 : 0 < y := by omega
        obtain ⟨z, hz⟩ : ∃ z, z = x / 65536 := ⟨_, rfl⟩
        rw [← hz] at hy
        have k1 : ((x : Int)).fdiv (2 ^ min 16 IntKind.u64.bits) = z := by rw [hz]; exact fd16 x
        have k2 : ((z : Int)).fdiv (2 ^ min 8 IntKind.u64.bits) = y := by rw [hy]; exact fd8 z
        have m3 : (256 : Int) ≤ z := by omega
        clear hz
        refine H.math_bits_Len64.pure hmix rfl rfl ?_
        clear hy h2 h3 h4 hx hx0
        repeat' (simp -dsimp -implicitDefEqProofs [*])
      · have e : 2 ^ (24 + c.toNat) = 16777216 * 2 ^ c.toNat := Nat.pow_add ..
        omega
      · have e : 2 ^ (24 + c.toNat) = 16777216 * 2 ^ c.toNat := Nat.pow_add ..
        omega
    · obtain ⟨y, hy⟩ : ∃ y, y = x / 65536 := ⟨_, rfl⟩
      obtain ⟨c, h1, h2, h3, h4⟩ := tab_get (y := y) (by omega) (by omega)
      refine ⟨16 + c.toNat, ?_, by omega, ?_, ?_⟩
      · have w0 : IntKind.u8.wrap (y : Int) = y := u8_in (by omega)
        have w1 : IntKind.i64.wrap ((16 : Int) + c.toNat) = (16 : Int) + c.toNat := wrap_in (by omega) (by omega)
        have w2 : IntKind.i64.wrap (c.toNat : Int) = (c.toNat : Int) := wrap_in (by omega) (by omega)
        have m1 : (65536 : Int) ≤ x := by omega
        have m2 : 0 < y := by omega
        have k1 : ((x : Int)).fdiv (2 ^ min 16 IntKind.u64.bits) = y := by rw [hy]; exact fd16 x
        have m3 : ¬ (256 : Int) ≤ y := by omega
        refine H.math_bits_Len64.pure hmix rfl rfl ?_
        clear hy h2 h3 h4 hx hx0
        repeat' (simp -dsimp -implicitDefEqProofs [*])
      · have e : 2 ^ (16 + c.toNat) = 65536 * 2 ^ c.toNat := Nat.pow_add ..
        omega
      · have e : 2 ^ (16 + c.toNat) = 65536 * 2 ^ c.toNat := Nat.pow_add ..
        omega
  · by_cases a2 : 256 ≤ x
    · obtain ⟨y, hy⟩ : ∃ y, y = x / 256 := ⟨_, rfl⟩
      obtain ⟨c, h1, h2, h3, h4⟩ := tab_get (y := y) (by omega) (by omega)
      refine ⟨8 + c.toNat, ?_, by omega, ?_, ?_⟩
      · have w0 : IntKind.u8.wrap (y : Int) = y := u8_in (by omega)
        have w1 : IntKind.i64.wrap ((8 : Int) + c.toNat) = (8 : Int) + c.toNat := wrap_in (by omega) (by omega)
        have w2 : IntKind.i64.wrap (c.toNat : Int) = (c.toNat : Int) := wrap_in (by omega) (by omega)
        have m1 : ¬ (65536 : Int) ≤ x := by omega
        have m2 : (256 : Int) ≤ x := by omega
        have k1 : ((x : Int)).fdiv (2 ^ min 8 IntKind.u64.bits) = y := by rw [hy]; exact fd8 x
        refine H.math_bits_Len64.pure hmix rfl rfl ?_
        clear hy h2 h3 h4 hx hx0
        repeat' (simp -dsimp -implicitDefEqProofs [*])
      · have e : 2 ^ (8 + c.toNat) = 256 * 2 ^ c.toNat := Nat.pow_add ..
        omega
      · have e : 2 ^ (8 + c.toNat) = 256 * 2 ^ c.toNat := Nat.pow_add ..
        omega
    · obtain ⟨y, hy⟩ : ∃ y, y = x := ⟨_, rfl⟩
      obtain ⟨c, h1, h2, h3, h4⟩ := tab_get (y := y) (by omega) (by omega)
      refine ⟨0 + c.toNat, ?_, by omega, ?_, ?_⟩
      · have w0 : IntKind.u8.wrap (y : Int) = y := u8_in (by omega)
        have w1 : IntKind.i64.wrap ((0 : Int) + c.toNat) = (0 : Int) + c.toNat := wrap_in (by omega) (by omega)
        have w2 : IntKind.i64.wrap (c.toNat : Int) = (c.toNat : Int) := wrap_in (by omega) (by omega)
        have m1 : ¬ (65536 : Int) ≤ x := by omega
        have m2 : ¬ (256 : Int) ≤ x := by omega
        subst hy
        refine H.math_bits_Len64.pure hmix rfl rfl ?_
        clear h2 h3 h4 hx hx0
        repeat' (simp -dsimp -implicitDefEqProofs [*])
      · have e : 2 ^ (0 + c.toNat) = 1 * 2 ^ c.toNat := Nat.pow_add ..
        omega
      · have e : 2 ^ (0 + c.toNat) = 1 * 2 ^ c.toNat := Nat.pow_add ..
        omega
/-- How far a digit is moved. -/
theorem lz_spec (x : Nat) (hx0 : 0 < x) (hx : x < 1073741824) (st : Store) : ∃ s : Nat, Rets P F.math_bits_LeadingZeros64 [.val (.int .u64 x)] st (.int ((s : Int) + 34)) ∧ s < 30 ∧ 536870912 ≤ x * 2 ^ s ∧ x * 2 ^ s < 1073741824 := by
  obtain ⟨m, hm, h1, h2, h3⟩ := len64_spec x hx0 hx st
  have hm30 : m ≤ 30 := by
    apply Nat.le_of_not_lt
    intro h
    have := Nat.pow_le_pow_right (n := 2) (by decide) (show 31 ≤ m by omega)
    omega
  have hm0 : 0 < m := by
    apply Nat.pos_of_ne_zero
    rintro rfl
    omega
  refine ⟨30 - m, ?_, by omega, ?_, ?_⟩
  · have w1 : IntKind.i64.wrap (64 - (m : Int)) = ((30 - m : Nat) : Int) + 34 := by rw [wrap_in (by omega) (by omega)]; omega
    obtain ⟨s, hs⟩ : ∃ s, s = 30 - m := ⟨_, rfl⟩
    rw [← hs] at w1 ⊢
    clear hs h2 h3
    refine H.math_bits_LeadingZeros64.pure hmix rfl rfl ?_
    repeat' (first 
     | (with_reducible refine Rets.xcall (hm) ?_)
     | (simp -dsimp -implicitDefEqProofs [*]))
  · have e : 2 ^ m * 2 ^ (30 - m) = 1073741824 := by rw [← Nat.pow_add, show m + (30 - m) = 30 by omega]
    have := Nat.mul_le_mul_right (2 ^ (30 - m)) h2
    rw [Nat.mul_assoc] at this
    omega
  · have e : 2 ^ m * 2 ^ (30 - m) = 1073741824 := by rw [← Nat.pow_add, show m + (30 - m) = 30 by omega]
    have := Nat.mul_lt_mul_of_pos_right h3 (Nat.pow_pos (n := 30 - m) (show 0 < 2 by decide))
    omega
end Go.Proofs.Ytliglilanpfjhaa
