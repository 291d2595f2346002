/- The compact code is met by the model's own: copy, make of slices. -/
import Derived.Test.YtbjfmedpaohpnaaLSa
namespace Go.Pv
variable {P : Program}

theorem vcells_flat {I : Imm} {zs : List PV} {vs : List Value} (h : vcells I zs vs) : ∀ n : Nat, vcells I (List.replicate n zs).flatten (List.replicate n vs).flatten
  | 0 => by simp [vcells]
  | n + 1 => by
    simp only [List.replicate_succ, List.flatten_cons]
    exact vcells_append h (vcells_flat h n)
theorem flat_rep_get {α : Type} (vs : List α) : ∀ (n j : Nat), j < n * vs.length → (List.replicate n vs).flatten[j]? = vs[j % vs.length]?
  | 0, j, h => by simp at h
  | n + 1, j, h => by
    simp only [List.replicate_succ, List.flatten_cons]
    by_cases hj : j < vs.length
    · rw [List.getElem?_append_left hj, Nat.mod_eq_of_lt hj]
    · have hj' : vs.length ≤ j := by omega
      rw [List.getElem?_append_right hj', flat_rep_get vs n (j - vs.length) (by rw [Nat.succ_mul] at h; omega), ← Nat.mod_eq_sub_mod hj']
theorem madeCells_eq (z : Array Value) (n : Nat) : (madeCells z (n * z.size)).toList = (List.replicate n z.toList).flatten := by
  apply List.ext_getElem?
  intro j
  by_cases hj : j < n * z.size
  · rw [flat_rep_get _ _ _ (by simpa using hj)]
    have hz : 0 < z.size := by
      rcases Nat.eq_zero_or_pos z.size with h0 | h0
      · rw [h0] at hj; simp at hj
      · exact h0
    have hlt := Nat.mod_lt j hz
    simp only [madeCells, Array.toList_map, Array.toList_range, List.getElem?_map, List.getElem?_range hj, Option.map_some, Array.length_toList]
    rw [getElem!_pos z _ hlt]
    simp [hlt]
  · rw [List.getElem?_eq_none (by rw [Array.length_toList, size_madeCells]; omega), List.getElem?_eq_none]
    have : ∀ n : Nat, (List.replicate n z.toList).flatten.length = n * z.size := by
      intro n
      simp [List.length_flatten]
    rw [this]; omega

theorem mkSlice_sound {t e : TypeId} {i : TypeInfo} {z : Value} (ht : P.underlying t = some (.slice e)) (hi : P.info? e = some i) (hz : i.zero = some z) (hzs : z.cells.size = i.size) {zs : List PV} (hzc : ∀ I, vcells I zs z.cells.toList)
    {I : Imm} {st : Store} {w : World} (hs : SRep I st w) {kl kc : IntKind} {l c : Int} {K : PV → Store → Prop}
    (hk : 0 ≤ l ∧ l ≤ c ∧ c * i.bytes ≤ 281474976710656 ∧ c ≤ 9223372036854775807 ∧ ∀ b, snew st b → K (.own b 0 l.toNat c.toNat) ((b, .arr e (List.replicate c.toNat zs).flatten) :: st)) :
    Comes I w K ((Instr.makeSlice t (.int kl l) (.int kc c)).run P w) := by
  obtain ⟨h0, h1, h2, h3, hK⟩ := hk
  rw [run_make w t e i z ht hi hz kl kc l c h0 h1 (by rw [Int.mul_comm]; exact h2) h3]
  refine ⟨_, _, rfl, I, _, I.le_refl, ⟨rfl, rfl, rfl, by simp⟩, hs.alloc (o := .arr e (List.replicate c.toNat zs).flatten) ⟨(madeCells z.cells (c.toNat * i.size)).toList, by simp, ?_⟩, _, vrep_val, hK w.heap.size (snew_of hs.keys)⟩
  rw [← hzs, madeCells_eq]
  exact vcells_flat (hzc I) _

theorem copy_sound {t tx ty e : TypeId} {k : Nat} (ht : P.underlying t = some (.slice e)) {a : Bool} (hl : lay P e = some (k, a))
    {I : Imm} {st : Store} {w : World} (hs : SRep I st w) {p q : PV} {s x : Value} {new : List PV} {m : Nat} {K : PV → Store → Prop} (hp : vrep I p s) (hq : vrep I q x) (hsrc : srcCells k st q = some (new, m))
    (hk : copyK k p new m st K) : Comes I w K ((Builtin.copy_ #[t, tx] ty #[s, x]).run P w) := by
  obtain ⟨us, hu1, hu2, hu3, hu4⟩ := src_sound (P := P) hs hq hsrc
  unfold copyK at hk
  split at hk
  · simp only [vrep] at hp
    subst hp
    have h1 := hu4 w rfl 0 (Nat.zero_le _)
    refine ⟨.int .i64 0, w, ?_, I, st, I.le_refl, Calm.refl w, hs, _, vrep_val, hk⟩
    simp [Builtin.copy_, run_underlying ht, hu3, lay_size hl, h1, goInt]
  · rename_i tt cs
    simp only [vrep] at hp
    obtain ⟨ad, cap, ws, rfl, -⟩ := hp
    have h1 := hu4 w rfl 0 (Nat.zero_le _)
    refine ⟨.int .i64 0, w, ?_, I, st, I.le_refl, Calm.refl w, hs, _, vrep_val, hk⟩
    have hst : ∀ ad : Addr, (storeCells ad ([] : List Value)).run P w = .ok () w := fun ad => rfl
    cases ad <;> simp [Builtin.copy_, run_underlying ht, hu3, lay_size hl, h1, goInt, hst]
  · rename_i b off n cap
    simp only [vrep] at hp
    subst hp
    split at hk
    · rename_i T row hb
      obtain ⟨hfit, hK⟩ := hk
      have h1 := hu4 w rfl (min m n) (Nat.min_le_left _ _)
      obtain ⟨hI, r, hw0, vs, rfl, hcv⟩ := hs.objs b _ hb
      have htl : (us.take (min m n * k)).length = min m n * k := by
        rw [List.length_take, hu2]
        exact Nat.min_eq_left (Nat.mul_le_mul_right k (Nat.min_le_left _ _))
      obtain ⟨w', hr1, hr2, hr3, hr4, hr5⟩ := storeCells_run (P := P) (us.take (min m n * k)) 0 off vs w hw0 (by rw [htl, ← vcells_length hcv]; omega) (vcells_one (vcells_take _ hu1))
      refine ⟨.int .i64 (min m n : Nat), w', ?_, I, _, I.le_refl, hr2, hs.put hb (o' := .arr T (setCells row off (new.take (min m n * k)))) ⟨_, rfl, ?_⟩ hr3 hr4 hr5, _, vrep_val, hK⟩
      · have hmin : Nat.min m n = min m n := rfl
        simp [Builtin.copy_, run_underlying ht, hu3, lay_size hl, hmin, h1, hr1, goInt]
      · rw [Nat.add_zero]
        exact vcells_setCells off (vcells_take _ hu1) hcv
    · exact hk.elim
  · exact hk.elim
end Go.Pv
