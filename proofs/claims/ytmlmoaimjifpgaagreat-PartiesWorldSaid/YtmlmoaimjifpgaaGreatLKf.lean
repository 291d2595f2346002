/- A map that holds the first of each number: against sorting and leaving out. -/
import Derived.Test.YtmlmoaimjifpgaaGreatLVf
import Derived.Test.YtmlmoaimjifpgaaGreatLCd
namespace Go.Pv
section
variable {α : Type} {key : α → Int}
structure FstM (key : α → Int) (L : List α) (M : KM Int α) : Prop where
 wf : KM.wf M
 look : ∀ k, M.look k = L.find? fun y => decide (key y = k)
theorem FstM.nil : FstM key [] [] := ⟨KM.wf_nil, fun _ => rfl⟩
theorem FstM.skip {L : List α} {M : KM Int α} {x y : α} (h : FstM key L M) (e : M.look (key x) = some y) : FstM key (L ++ [x]) M := by
 refine ⟨h.wf, fun k => ?_⟩
 rw [List.find?_append, ← h.look]
 by_cases hk : key x = k
 ·rw [← hk, e]
  rfl
 ·rw [List.find?_cons, decide_eq_false hk, List.find?_nil, Option.or_none]
theorem FstM.put {L : List α} {M : KM Int α} {x : α} (h : FstM key L M) (e : M.look (key x) = none) : FstM key (L ++ [x]) (M.put (key x) x) := by
 refine ⟨KM.wf.put h.wf _ _, fun k => ?_⟩
 rw [KM.look_put, List.find?_append, ← h.look]
 by_cases hk : k = key x
 ·rw [if_pos hk, hk, e, List.find?_cons, decide_eq_true rfl]
  rfl
 ·rw [if_neg hk, List.find?_cons, decide_eq_false (fun e2 => hk e2.symm), List.find?_nil, Option.or_none]
theorem k8u (L : List α) (x : α) : x ∈ k3l key (srt key L) ↔ IsFst key L x := by
 rw [(k8r (q6v L)).1, (IsFst.stb (q7x L) x)]
theorem z2t (L : List α) : Up key (k3l key (srt key L)) := (k8r (q6v L)).2
theorem FstM.at {L : List α} {M : KM Int α} (h : FstM key L M) {x : α} (hx : x ∈ k3l key (srt key L)) : M.look (key x) = some x := by
 rw [h.look]
 exact (k8u L x).1 hx
theorem FstM.len {L : List α} {M : KM Int α} (h : FstM key L M) : M.length = (k3l key (srt key L)).length := by
 have n2 : ((k3l key (srt key L)).map key).Nodup := by
  refine List.pairwise_map.2 ?_
  have := z2t (key := key) L
  exact List.Pairwise.imp (fun {a b} (h : key a < key b) => Int.ne_of_lt h) this
 have a : (M.map (·.1)).length ≤ ((k3l key (srt key L)).map key).length := q74 h.wf fun k hk => by
  obtain ⟨⟨k', y⟩, hy, rfl⟩ := List.mem_map.1 hk
  have h1 := (KM.mem_look h.wf).2 hy
  rw [h.look] at h1
  have h2 : key y = k' := by simpa using List.find?_some h1
  refine List.mem_map.2 ⟨y, (k8u L y).2 ?_, h2⟩
  unfold IsFst
  rw [h2]
  exact h1
 have b : ((k3l key (srt key L)).map key).length ≤ (M.map (·.1)).length := q74 n2 fun k hk => by
  obtain ⟨y, hy, rfl⟩ := List.mem_map.1 hk
  exact List.mem_map.2 ⟨(key y, y), (KM.mem_look h.wf).1 (h.at hy), rfl⟩
 rw [List.length_map, List.length_map] at a b
 omega
end
end Go.Pv
