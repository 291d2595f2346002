/- Package nat: division by one digit. -/
import Derived.Test.YtokkkmfbejgccaaGreatG57E
namespace Go.Proofs.YtokkkmfbejgccaaGreat
open Go.Pv
set_option maxRecDepth 100000
theorem short_spec (t : Bool) (A : List Int) (a d : Nat) (eA : dv A = a) (hA : dOk A) (hla : A.length ≤ 50000) (hd : 0 < d) (hd2 : d ≤ 1073741824) (st : Store) : Rets P F.nat_short [intLst t A, .int d] st (.tuple [intLst false (digs (a / d)), .int (a % d : Nat)]) := by
  refine H.nat_short.view hmix rfl rfl ?_
  have hent := H.slices_Backward__natdigits_int_1.enters
  have kE : Hid (dv A = a ∧ dOk A) := ⟨eA, hA⟩
  clear eA hA
  repeat' (first 
   | (with_reducible refine Fresh.intro fun b hb => ?_) <;> (try simp -dsimp -implicitDefEqProofs [*] at hb)
   | (with_reducible refine Rets.xcall (down_spec _ _ _) ?_)
   | ((with_reducible refine and_keep ?_ fun hk => ?_); omega)
   | (simp -dsimp -implicitDefEqProofs [*]))
  revert b
  revert b
  revert b
  revert b
  intro p3 h3 p4 h4 p5 h5 q hq
  have dq : 0 < (d : Int) := by omega
  refine xrange_func hent fun key hkey lp hlp => ?_
  simp -dsimp -implicitDefEqProofs [*] at hlp
  rw [← intRow_rep]
  refine xcall_post (backward1_gives t A (by omega) (List Int × Int) (fun s => (lp, .loop key _ .ready none) :: (q, .arr T.int (intRow s.1)) :: (p5, .arr T.int [.int s.2]) :: (p4, .arr T.natdigits [.own q 0 A.length A.length]) :: (p3, .arr T.int [.int d]) :: st)
    (fun i s => Hid (ShInv A s.1 d s.2 (A.length - i))) (fun _ => False) lp ?_ (List.replicate A.length 0, 0) ⟨.start A dq⟩) ?_
  · rintro i ⟨Q, r⟩ hI hil
    simp only at hI
    obtain ⟨j, hj⟩ : ∃ j, j = A.length - 1 - i := ⟨_, rfl⟩
    have hjl : j < A.length := by omega
    have hI2 : ShInv A Q d r (j + 1) := by have := hI.out; rwa [show A.length - i = j + 1 by omega] at this
    have hjq : j < Q.length := by rw [hI2.len]; exact hjl
    have lq := hI2.len
    have a1 := dOk_get kE.out.2 hjl
    have r0 := hI2.r0
    have rd := hI2.rd
    have e1 : A.length - (i + 1) = j := by omega
    have hS : Hid (ShInv A (Q.set j ((r * 1073741824 + A[j]).tdiv d)) d ((r * 1073741824 + A[j]).tmod d) (A.length - (i + 1))) := ⟨by
      have hge : 0 ≤ r * 1073741824 + A[j] := by omega
      rw [Int.tdiv_eq_ediv_of_nonneg hge, Int.tmod_eq_emod_of_nonneg hge, e1]
      exact hI2.step dq kE.out.2 hjl⟩
    simp only [← hj, dAt_lt hjl]
    unfold BB at a1
    have w1 : IntKind.i64.wrap (r * 2 ^ min 30 IntKind.i64.bits) = r * 1073741824 := shl30 (by omega) (by omega)
    have r2 : r ≤ 8589934591 := by omega
    obtain ⟨a1, a2⟩ := a1
    have r4 : 0 ≤ (r * 1073741824 + A[j]).tdiv d ∧ (r * 1073741824 + A[j]).tdiv d ≤ 9223372036854775807 := by
      have hge : 0 ≤ r * 1073741824 + A[j] := by omega
      rw [Int.tdiv_eq_ediv_of_nonneg hge]
      have := Int.ediv_le_self d hge
      exact ⟨Int.ediv_nonneg hge (by omega), by omega⟩
    have w3 : IntKind.i64.wrap ((r * 1073741824 + A[j]).tdiv d) = (r * 1073741824 + A[j]).tdiv d := wrap_in (by omega) (by omega)
    have nd : ¬ d = 0 := by omega
    clear hI hI2 hj hent e1
    refine pround_walkS hmix hkey (by simp; rfl) rfl ?_
    clear hkey
    repeat' (simp -dsimp -implicitDefEqProofs [*])
    refine DrawLate.intro [q] ?_
    repeat' (first 
     | ((with_reducible refine and_keep ?_ fun hk => ?_); omega)
     | (simp -dsimp -implicitDefEqProofs [*]))
    rw [intRow_set]
    exact ⟨_, StLe.refl _, _, _, rfl, hS⟩
  · rintro e st' ⟨rfl, ⟨Q, r⟩, rfl, h | h⟩
    · rw [Nat.sub_self] at h
      have hf := h.out.fin kE.out.1 rfl
      have lq := h.out.len
      rw [← hf.2, ← hf.1]
      clear hf h
      simp only at lq ⊢
      have ht := trim_own q A.length Q [] (by omega) (by omega) ((q, .arr T.int (intRow Q)) :: (p5, .arr T.int [.int r]) :: (p4, .arr T.natdigits [.own q 0 A.length A.length]) :: (p3, .arr T.int [.int d]) :: st) (by simp)
      rw [lq] at ht
      repeat' (simp -dsimp -implicitDefEqProofs [*])
      refine DrawLate.intro [p4] ?_
      repeat' (first 
       | (with_reducible refine Rets.xcall (ht) ?_)
       | (with_reducible refine Cls_and ?_ ?_)
       | (with_reducible exact Cls.self _ _)
       | (with_reducible refine Cls_same ?_)
       | (with_reducible refine Cls_in ?_ ?_)
       | (simp -dsimp -implicitDefEqProofs [*]))
      refine .trim2 (by simp [*]) (by omega) (by omega) ?_
      exact RetView.drop (st' := st) (by repeat' (first | exact StLe.refl _ | (refine StLe_cons (by simp [*]; done) ?_) | (refine StLe_fresh (by simp [*]; done) ?_))) ⟨rfl, rfl⟩
    · exact h.elim
end Go.Proofs.YtokkkmfbejgccaaGreat
