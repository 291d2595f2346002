/- The reference: few scores. -/
import Derived.Test.YtgjgcflgjpigpaaS26RE
import Derived.Test.YtgjgcflgjpigpaaS26ZG
namespace Go.Proofs.Ytgjgcflgjpigpaa
open Go.Pv
set_option maxRecDepth 100000
set_option maxHeartbeats 8000000
theorem sub_part {R cs : List PV} {a k j m : Nat} (h : sub R a k = some cs) (hj : j + m ≤ k) : sub R (a + j) m = sub cs j m := by
  rw [sub_eq] at h
  split at h
  · rename_i h1
    have e : cs = (R.drop a).take k := (Option.some.inj h).symm
    have hl : cs.length = k := by rw [e, List.length_take, List.length_drop]; omega
    rw [sub_eq, sub_eq, if_pos (by omega), if_pos (by omega), e, List.drop_take, List.take_take, List.drop_drop]
    congr 2
    omega
  · cases h
theorem Rec.row_score {L : List Rec} {n : Nat} (h : n < L.length) : sub (Rec.row L) (n * 7 + 3) 4 = some L[n].score.enc := by
  rw [sub_part (Rec.row_sub L n h) (by omega)]; rfl
def few6 (r : Rw) : Bool := fewB r.L1 6 && fewB r.L2 6
end Go.Proofs.Ytgjgcflgjpigpaa
/- Scores of few digits: comparing. -/
namespace Go.Proofs.Ytgjgcflgjpigpaa
open Go.Pv
set_option maxRecDepth 100000
set_option maxHeartbeats 8000000
/-- What is right and of few digits is a number of few digits. -/
theorem few6_is {r : Rw} (h1 : okR r = true) (h2 : few6 r = true) : ∃ q : Rat, r.enc = rC false false q ∧ r.val = q ∧ dl q.num.natAbs ≤ 6 ∧ dl q.den ≤ 6 := by
  obtain ⟨q, hq⟩ := ratOk_iff.1 h1
  have hv : r.val = q := IsRat.val hq
  simp only [few6, fewB, Bool.and_eq_true, Bool.or_eq_true, decide_eq_true_eq] at h2
  obtain ⟨s1, L1, s2, L2⟩ := r
  obtain ⟨rfl, rfl, rfl, rfl, a1, a2⟩ := hq
  have e1 : (digs q.num.natAbs).length = dl q.num.natAbs := rfl
  have e2 : (digs q.den).length = dl q.den := rfl
  simp only [e1, e2] at h2
  refine ⟨q, by rw [rC_cells]; rfl, hv, by omega, by omega⟩
theorem few6_small {q : Rat} (h1 : dl q.num.natAbs ≤ 6) (h2 : dl q.den ≤ 6) : Small q := ⟨by omega, by omega⟩
theorem few6_cross {a b : Rat} (h1 : dl a.num.natAbs ≤ 6) (h2 : dl b.den ≤ 6) : dl (a.num * b.den).natAbs ≤ 2048 := by
  have := dl_mul a.num.natAbs b.den
  rw [Int.natAbs_mul]
  show dl (a.num.natAbs * b.den) ≤ 2048
  omega
/-- Comparing of scores of few digits: both sides. -/
theorem cmp6 {x y : Rw} (hx : okR x = true) (fx : few6 x = true) (hy : okR y = true) (fy : few6 y = true) : ∃ c : Int, (c < 0 ↔ x.val < y.val) ∧ (c ≤ 0 ↔ x.val ≤ y.val) ∧ (∀ st, Rets P F.ratio_Cmp [x.pv, y.pv] st (.tuple [.int c, .int 0])) ∧ (∀ st, Rets P F.podiumref10_Cmp [x.pv, y.pv] st (.tuple [.int c, .int 0])) := by
  obtain ⟨a, ea, va, a1, a2⟩ := few6_is hx fx
  obtain ⟨b, eb, vb, b1, b2⟩ := few6_is hy fy
  have c1 := ratCmp_spec false false false false a b (few6_small a1 a2) (few6_small b1 b2) (few6_cross a1 b2) (few6_cross b1 a2)
  have c2 := rCmp10_spec false false false false a b (few6_small a1 a2) (few6_small b1 b2) (few6_cross a1 b2) (few6_cross b1 a2)
  rw [← ea, ← eb] at c1 c2
  refine ⟨_, ?_, ?_, c1, c2⟩
  · rw [va, vb]; exact cmpR_lt
  · rw [va, vb]; exact cmpR_le
end Go.Proofs.Ytgjgcflgjpigpaa
