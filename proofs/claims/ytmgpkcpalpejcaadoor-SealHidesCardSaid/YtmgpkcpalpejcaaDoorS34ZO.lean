/- Plain: the points that are known. -/
import Derived.Test.YtmgpkcpalpejcaaDoorS34ZN
import Derived.Test.YtmgpkcpalpejcaaDoorS34ZA
namespace Go.Proofs.YtmgpkcpalpejcaaDoor
open Go.Pv Go.Pv.Sha Go.Pv.Ip
set_option maxRecDepth 100000
def ptsU (sw : Int) (val : Nat → Int) (kn : List Bool) (need : Nat) : Nat → List Point
  | 0 => [⟨0, sw⟩]
  | k + 1 => if kn.getD k false && decide ((ptsU sw val kn need k).length < need) then ptsU sw val kn need k ++ [⟨(k : Int) + 1, val k⟩] else ptsU sw val kn need k
structure PtsOk (sw : Int) (val : Nat → Int) (need K : Nat) (p : List Point) : Prop where
  pos : 1 ≤ p.length
  len : p.length ≤ need
  first : p[0]? = some ⟨0, sw⟩
  x : ∀ i (h : i < p.length), 0 ≤ p[i].X ∧ p[i].X ≤ K
  inc : ∀ i j (hi : i < p.length) (hj : j < p.length), i < j → p[i].X < p[j].X
  known : ∀ i (h : i < p.length), 0 < i → ∃ n : Nat, n < K ∧ p[i].X = (n : Int) + 1 ∧ p[i].Y = val n
theorem ptsU_ok (sw : Int) (val : Nat → Int) (kn : List Bool) (need : Nat) (hn : 1 ≤ need) : ∀ K, PtsOk sw val need K (ptsU sw val kn need K)
  | 0 => ⟨by simp [ptsU], by simp [ptsU]; omega, by simp [ptsU], by intro i h; simp [ptsU] at h; subst h; simp [ptsU], by intro i j hi hj; simp [ptsU] at hi hj; omega, by intro i h; simp [ptsU] at h; omega⟩
  | K + 1 => by
    have ih := ptsU_ok sw val kn need hn K
    rw [ptsU]
    split
    · rename_i hc
      simp only [Bool.and_eq_true, decide_eq_true_eq] at hc
      generalize ptsU sw val kn need K = p at *
      have hx : ∀ i (h : i < (p ++ [(⟨(K : Int) + 1, val K⟩ : Point)]).length), (i < p.length ∧ ∃ h' : i < p.length, (p ++ [(⟨(K : Int) + 1, val K⟩ : Point)])[i] = p[i]) ∨ (i = p.length ∧ (p ++ [(⟨(K : Int) + 1, val K⟩ : Point)])[i] = ⟨(K : Int) + 1, val K⟩) := by
        intro i h
        by_cases hi : i < p.length
        · exact .inl ⟨hi, hi, List.getElem_append_left hi⟩
        · have : i = p.length := by simp at h; omega
          subst this
          exact .inr ⟨rfl, by simp⟩
      refine ⟨by simp, by simp; omega, by rw [List.getElem?_append_left (by have := ih.pos; omega)]; exact ih.first, fun i h => ?_, fun i j hi hj hij => ?_, fun i h h0 => ?_⟩
      · rcases hx i h with ⟨-, h', e⟩ | ⟨-, e⟩
        · rw [e]; have := ih.x i h'; omega
        · rw [e]; simp only; omega
      · rcases hx i hi with ⟨h1, h', e⟩ | ⟨h1, e⟩
        · rcases hx j hj with ⟨h2, h'', e2⟩ | ⟨h2, e2⟩
          · rw [e, e2]; exact ih.inc i j h' h'' hij
          · rw [e, e2]; have := ih.x i h'; simp only; omega
        · simp at hj; omega
      · rcases hx i h with ⟨-, h', e⟩ | ⟨-, e⟩
        · rw [e]; obtain ⟨n, a, b, c⟩ := ih.known i h' h0; exact ⟨n, by omega, b, c⟩
        · rw [e]; exact ⟨K, by omega, rfl, rfl⟩
    · exact ⟨ih.pos, ih.len, ih.first, fun i h => by have := ih.x i h; omega, ih.inc, fun i h h0 => by obtain ⟨n, a, b⟩ := ih.known i h h0; exact ⟨n, by omega, b⟩⟩
theorem PtsOk.good {sw : Int} {val : Nat → Int} {need K : Nat} {p : List Point} (h : PtsOk sw val need K p) (hK : K ≤ 6) (hs : 0 ≤ sw ∧ sw < Qi) (hv : ∀ n, n < K → 0 ≤ val n ∧ val n < Qi) : Ip.Good (ptsL p) := by
  have hl : (ptsL p).length = p.length := by simp [ptsL]
  refine ⟨fun i hi => ?_, fun i k hi hk hne => ?_, fun i hi => ?_⟩
  · rw [hl] at hi
    rw [ptsL_get hi]
    have := h.x i hi
    exact ⟨this.1, by simp only; omega⟩
  · rw [hl] at hi hk
    rw [ptsL_get hi, ptsL_get hk]
    simp only
    rcases Nat.lt_or_gt_of_ne hne with h1 | h1
    · have := h.inc i k hi hk h1; omega
    · have := h.inc k i hk hi h1; omega
  · rw [hl] at hi
    rw [ptsL_get hi]
    simp only
    by_cases h0 : i = 0
    · subst h0
      have := h.first
      rw [List.getElem?_eq_getElem hi] at this
      rw [Option.some.inj this]; exact hs
    · obtain ⟨n, a, -, c⟩ := h.known i hi (by omega)
      rw [c]; exact hv n a
theorem thr_len (p : List Point) : (Ip.through (ptsL p)).length = p.length := by rw [Ip.through, outer_len]; simp [ptsL]
theorem thr_in (p : List Point) : ∀ c ∈ Ip.through (ptsL p), 0 ≤ c ∧ c < Qi := outer_in _ _
theorem thr_ev {p : List Point} (hg : Ip.Good (ptsL p)) (z : Nat) {i : Nat} (hi : i < p.length) : ev (Ip.through (ptsL p) ++ List.replicate z 0) p[i].X % Qi = p[i].Y := by
  rw [ev_append, ev_zeros, Int.mul_zero, Int.add_zero]
  have h := through_ev hg (m := i) (by simp [ptsL]; exact hi)
  rw [ptsL_get hi] at h
  exact h
/-- The coefficients: the first is the secret. -/
theorem poly_first {sw : Int} {val : Nat → Int} {need K : Nat} {p : List Point} (h : PtsOk sw val need K p) (hg : Ip.Good (ptsL p)) (hs : 0 ≤ sw ∧ sw < Qi) (z : Nat) : ∃ tl, Ip.through (ptsL p) ++ List.replicate z 0 = sw :: tl ∧ tl.length + 1 = p.length + z := by
  have hp := h.pos
  have hl := thr_len p
  have h0 := thr_ev hg z (i := 0) (by omega)
  have hf := h.first
  rw [List.getElem?_eq_getElem (by omega)] at hf
  rw [Option.some.inj hf] at h0
  have hin := thr_in p
  clear hf
  simp only at h0
  obtain ⟨T, hT⟩ : ∃ T, Ip.through (ptsL p) = T := ⟨_, rfl⟩
  rw [hT] at hl h0 hin ⊢
  clear hT
  match T, hl with
  | c :: T, hl =>
    have hc := hin c (by simp)
    simp only [List.cons_append, ev, Int.zero_mul, Int.add_zero] at h0
    rw [Int.emod_eq_of_lt hc.1 hc.2] at h0
    subst h0
    exact ⟨T ++ List.replicate z 0, rfl, by simp at hl ⊢; omega⟩
  | [], hl => simp at hl; omega
theorem cipher_less {ci o : List Int} (hl : ci.length = o.length) (hc : ∀ n ∈ ci, 0 ≤ n ∧ n ≤ 1073741788) (ho : ∀ n ∈ o, 0 ≤ n ∧ n ≤ 1000) : cipher o (bareL ci o) = ci := by
  refine List.ext_getElem (by simp [cipher, bareL]; omega) fun i hi hi2 => ?_
  have b1 := hc _ (List.getElem_mem hi2)
  have b2 := ho _ (List.getElem_mem (show i < o.length by omega))
  simp only [cipher, bareL, List.getElem_zipWith]
  unfold less QI
  split <;> omega
theorem bareL_in {ci o : List Int} (hl : ci.length = o.length) (h1 : 1 ≤ ci.length) (h2 : ci.length ≤ 64) (hc : ∀ n ∈ ci, 0 ≤ n ∧ n ≤ 1073741788) (ho : ∀ n ∈ o, 0 ≤ n ∧ n ≤ 1000) : inAll (bareL ci o) 1073741788 = true := by
  unfold inAll
  simp only [Bool.and_eq_true, decide_eq_true_eq, List.all_eq_true, wi]
  have hb : (bareL ci o).length = ci.length := by simp [bareL, hl]
  refine ⟨⟨by omega, by omega⟩, fun n hn => ?_⟩
  obtain ⟨i, hi, rfl⟩ := List.mem_iff_getElem.1 hn
  have b1 := hc _ (List.getElem_mem (show i < ci.length by omega))
  have b2 := ho _ (List.getElem_mem (show i < o.length by omega))
  simp only [bareL, List.getElem_zipWith]
  have := less_in _ _ b1.1 b1.2 b2.1 (by omega)
  exact ⟨this.1, this.2⟩
end Go.Proofs.YtmgpkcpalpejcaaDoor
