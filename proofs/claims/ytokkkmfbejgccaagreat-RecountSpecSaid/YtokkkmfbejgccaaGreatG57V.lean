/- The reference: differences, division. -/
import Derived.Test.YtokkkmfbejgccaaGreatG57U
namespace Go.Proofs.YtokkkmfbejgccaaGreat
open Go.Pv
set_option maxRecDepth 100000
set_option maxHeartbeats 4000000
theorem rless_spec (t u : Bool) (x y : Nat) (hyx : y ≤ x) (hx : dl x ≤ 20000) (st : Store) : Rets P F.podiumref09_less [intLst t (digs x), intLst u (digs y)] st (intLst false (digs (x - y))) := by
  have hS := subD hyx
  have H : ∃ f : Nat → Int, ∀ i, f i = dAt (digs x) i - dAt (digs y) i := ⟨fun i => dAt (digs x) i - dAt (digs y) i, fun _ => rfl⟩
  obtain ⟨f, hf⟩ := H
  have ef : (fun i => dAt (digs x) i - dAt (digs y) i) = f := funext fun i => (hf i).symm
  rw [ef] at hS
  have kf : Hid (∀ i, f i = dAt (digs x) i - dAt (digs y) i) := ⟨hf⟩
  have ow := carD_owe (digs_ok x) (digs_ok y) hf
  have ow : Hid (∀ i, (carD f i).2 = 0 ∨ (carD f i).2 = -1) := ⟨ow⟩
  rw [← hS]
  have hxl : (digs x).length ≤ 20000 := hx
  have exl : dl x = (digs x).length := rfl
  rw [exl]
  clear ef hf hS exl
  obtain ⟨A, hA⟩ : ∃ A, A = digs x := ⟨_, rfl⟩
  obtain ⟨B, hB⟩ : ∃ A, A = digs y := ⟨_, rfl⟩
  have okA : Hid (dOk A ∧ dOk B) := ⟨by rw [hA, hB]; exact ⟨digs_ok _, digs_ok _⟩⟩
  rw [← hA] at kf hxl ⊢
  rw [← hB] at kf ⊢
  clear hA hB
  refine H.podiumref09_less.view hmix rfl rfl ?_
  repeat' (first 
   | (with_reducible refine Lit.imm ?_)
   | (simp -dsimp -implicitDefEqProofs [-xappend_list, *]))
  refine xloop_for (fun z : Nat × Option (Acc Int) => [(0, intLst t A), (1, intLst u B), (5, accT z.2), (6, .int (-(carD f z.1).2)), (7, .int z.1)]) (fun z => accS T.int st z.2) (fun z => z.1 ≤ A.length ∧ accOk intRow 1 st z.2 ∧ Hid (accL z.2 = (carD f z.1).1)) (fun z => A.length - z.1) (0, none) ⟨Nat.zero_le _, trivial, ⟨rfl⟩⟩ (by simp [carD]) (.refl _) ?_
  rintro ⟨i, o⟩ ⟨hi, ho, hl⟩
  simp only at hi ho hl
  by_cases hin : i < A.length
  · have kn : Hid ((accL o).length ≤ 20000) := ⟨by rw [hl.out, carD_len]; omega⟩
    have y1 := dOk_get okA.out.1 hin
    have y2 := dAt_ok okA.out.2 i
    have e1 := kf.out i
    rw [dAt_lt hin] at e1
    obtain ⟨aj, haj⟩ : ∃ aj, A[i] = aj := ⟨_, rfl⟩
    rw [haj] at y1 e1
    obtain ⟨bj, hbj⟩ : ∃ b, dAt B i = b := ⟨_, rfl⟩
    have cd := rdigit_spec u B i
    rw [hbj] at cd e1 y2
    have ho2 := ow.out i
    unfold BB at y1 y2
    obtain ⟨w, hw⟩ : ∃ w, w = (carD f i).2 := ⟨_, rfl⟩
    obtain ⟨s, hs⟩ : ∃ s, s = f i + (carD f i).2 := ⟨_, rfl⟩
    rw [← hw] at ho2
    have cl := carD_less hs (by rw [hs, e1, ← hw]; omega) (by rw [hs, e1, ← hw]; omega)
    have x1 : IntKind.i64.wrap (aj - bj) = aj - bj := wrap_in (by omega) (by omega)
    have x2 : IntKind.i64.wrap (aj - bj - -w) = s := by rw [hs, e1, ← hw, wrap_in (by omega) (by omega)]; omega
    have x2' : IntKind.i64.wrap (aj - bj + w) = s := by rw [hs, e1, ← hw, wrap_in (by omega) (by omega)]
    have x3 := wrap_succ (n := i) (by omega)
    rw [← hw]
    have sB : -1073741824 ≤ s ∧ s < 1073741824 := by rw [hs, e1, ← hw]; omega
    by_cases hneg : s < 0
    · have x4 : IntKind.i64.wrap (s + 1073741824) = s + 1073741824 := wrap_in (by omega) (by omega)
      have c3 : Hid _ := ⟨cl.1 hneg⟩
      clear cl y1 y2 e1 hw hs hbj ho2
      repeat' (first 
       | (with_reducible refine Rets.xcall (cd _) ?_)
       | (with_reducible refine Lit.imm ?_)
       | (with_reducible refine DrawLate.intro [] ?_)
       | (simp -dsimp -implicitDefEqProofs [-xappend_list, *]))
      refine xappend_accT intRow_len intRow_append o ho [s + 1073741824] (by simp [intRow]) rfl (by omega) (by have := kn.out; omega) fun a ha hab hal => ?_
      have hl2 : Hid (a.l = (carD f (i + 1)).1) := ⟨by rw [hal, c3.out, hl.out]⟩
      have e2 : (carD f (i + 1)).2 = -1 := by rw [c3.out]
      clear hal ho
      repeat' (simp -dsimp -implicitDefEqProofs [-xappend_list, *])
      exact Next.intro (i + 1, some a) ⟨by simp only; omega, ⟨ha, hab⟩, hl2⟩ (by simp only; omega) (by simp [e2]) (by repeat' (first | exact StLe.refl _ | (refine StLe_cons (by simp [*]; done) ?_) | (refine StLe_fresh (by simp [*]; done) ?_)))
    · have c3 : Hid _ := ⟨cl.2 hneg⟩
      clear cl y1 y2 e1 hw hs hbj ho2
      repeat' (first 
       | (with_reducible refine Rets.xcall (cd _) ?_)
       | (with_reducible refine Lit.imm ?_)
       | (with_reducible refine DrawLate.intro [] ?_)
       | (simp -dsimp -implicitDefEqProofs [-xappend_list, *]))
      refine xappend_accT intRow_len intRow_append o ho [s] (by simp [intRow]) rfl (by omega) (by have := kn.out; omega) fun a ha hab hal => ?_
      have hl2 : Hid (a.l = (carD f (i + 1)).1) := ⟨by rw [hal, c3.out, hl.out]⟩
      have e2 : (carD f (i + 1)).2 = 0 := by rw [c3.out]
      clear hal ho
      repeat' (simp -dsimp -implicitDefEqProofs [-xappend_list, *])
      exact Next.intro (i + 1, some a) ⟨by simp only; omega, ⟨ha, hab⟩, hl2⟩ (by simp only; omega) (by simp [e2]) (by repeat' (first | exact StLe.refl _ | (refine StLe_cons (by simp [*]; done) ?_) | (refine StLe_fresh (by simp [*]; done) ?_)))
  · have e : i = A.length := by omega
    subst e
    have ht := rtrim_spec false (accL o) (by rw [hl.out, carD_len]; omega) st
    repeat' (simp -dsimp -implicitDefEqProofs [-xappend_list, *])
    refine xcall_accT (row := intRow) rfl ho ht ?_
    rw [hl.out]
    repeat' (simp -dsimp -implicitDefEqProofs [-xappend_list, *])
    exact .same ⟨rfl, rfl⟩
/-- The greatest digit: so far. -/
structure DivR (x y i : Nat) (Q : List Int) (r : Nat) : Prop where
  len : Q.length = dl x
  ok : dOk Q
  lt : r < y
  val : dv ((digs x).drop i) = dv (Q.drop i) * y + r
end Go.Proofs.YtokkkmfbejgccaaGreat
