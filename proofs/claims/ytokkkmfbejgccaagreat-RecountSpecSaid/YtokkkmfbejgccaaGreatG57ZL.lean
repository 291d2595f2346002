/- Small facts for RecountSpec and RecountRunSpec. -/
import Derived.Test.YtokkkmfbejgccaaGreatG57ZJ
import Derived.Test.YtokkkmfbejgccaaGreatG57ZF
namespace Go.Proofs.YtokkkmfbejgccaaGreat
open Go.Pv
set_option maxRecDepth 100000
set_option maxHeartbeats 16000000
theorem runR_len {r : Rc} (hr : r.Few) (O : List Int) (A : List Bool) : (runR r O A).1.Len := by
  rcases runR_cases r O A with ⟨h, hA, ho⟩ | e | e
  · rw [runR_ok h hA ho]
    exact (runL_keep (r := r) (seqA O A) r h rfl rfl hr).2.2.2.len
  · rw [e]; exact few_0.len
  · rw [e]; exact few_0.len
theorem lookR_len {r : Rc} (hr : r.Few) (b : Bool) : (lookR r b).1.Len := by
  unfold lookR
  split
  · exact (look_few hr _ _).len
  · exact few_0.len
theorem startR_len {n w : Int} {s1 s2 : Bool} {L1 L2 : List Int} (hn : n ≤ 40 ∨ 4096 < n) (h1 : Few3 L1) (h2 : Few3 L2) : (startR n w s1 L1 s2 L2).Len := by
  have : (⟨n, w, s1, L1, s2, L2, 0, 0⟩ : Rc).Few := ⟨hn, h1, h2⟩
  unfold startR
  split
  · exact this.len
  · exact few_0.len
theorem needK_small {n w : Int} {s1 s2 : Bool} {L1 L2 : List Int} (__hn : n ≤ 40 ∨ 4096 < n) : needK n w s1 L1 s2 L2 ≤ 1000000 := by
  unfold needK
  split
  · rename_i hE
    unfold needE at hE
    split at hE
    · cases hE
    · rename_i hw
      split at hE
      · cases hE
      · split at hE
        · rename_i hq
          simp only [wi, Bool.and_eq_false_iff, decide_eq_false_iff_not, not_or, Decidable.not_not] at hw
          obtain ⟨⟨h1, h2⟩, h3, h4⟩ := hw
          have := needR_spec (needR_last (n := n.toNat) (w := w.toNat) (q := ratV s1 L1 L2) (by omega) (by omega) hq.1)
          omega
        · cases hE
  · decide
theorem same_self {x : Rc} (hx : x.Len) (st : Store) : Rets P F.podiumref57_Same [.agg (x.enc false false), .agg (x.enc false false)] st (.bool true) := by
  have c := same57_spec x x hx false false false false st
  rw [decide_eq_true rfl] at c
  exact c
end Go.Proofs.YtokkkmfbejgccaaGreat
