/- Plain: the bytes of a commitment tell its numbers and its salt. -/
import Derived.Test.YtmgpkcpalpejcaaDoorS34Z
namespace Go.Proofs.YtmgpkcpalpejcaaDoor
open Go.Pv Go.Pv.Sha
set_option maxRecDepth 100000
/-- No value's bytes begin another's. -/
def PF {α : Type} (f : α → List (BitVec 8)) : Prop := ∀ a b s t, f a ++ s = f b ++ t → a = b ∧ s = t
theorem b8_inj {a b : Nat} (ha : a < 256) (hb : b < 256) (h : BitVec.ofNat 8 a = BitVec.ofNat 8 b) : a = b := by
  have := congrArg BitVec.toNat h
  rw [BitVec.toNat_ofNat, BitVec.toNat_ofNat, Nat.mod_eq_of_lt (by omega), Nat.mod_eq_of_lt (by omega)] at this
  exact this
theorem numE_pf : PF numE := by
  intro a
  induction a using Nat.strongRecOn with
  | ind a ih =>
    intro b s t h
    by_cases ha : a < 128
    · rw [numE_lt ha] at h
      by_cases hb : b < 128
      · rw [numE_lt hb] at h
        simp only [List.cons_append, List.nil_append, List.cons.injEq] at h
        exact ⟨b8_inj (by omega) (by omega) h.1, h.2⟩
      · rw [numE_ge hb] at h
        simp only [List.cons_append, List.nil_append, List.cons.injEq] at h
        have := b8_inj (by omega) (by omega) h.1
        omega
    · rw [numE_ge ha] at h
      by_cases hb : b < 128
      · rw [numE_lt hb] at h
        simp only [List.cons_append, List.nil_append, List.cons.injEq] at h
        have := b8_inj (by omega) (by omega) h.1
        omega
      · rw [numE_ge hb] at h
        simp only [List.cons_append, List.cons.injEq] at h
        have h1 := b8_inj (by omega) (by omega) h.1
        have h2 := ih (a / 128) (by omega) (b / 128) s t h.2
        exact ⟨by omega, h2.2⟩
theorem intW_pf : PF fun n => (intW n).B := by
  intro a b s t h
  have h' : 1#8 :: (numE (2 * a) ++ s) = 1#8 :: (numE (2 * b) ++ t) := h
  have := numE_pf _ _ _ _ (List.cons.inj h').2
  exact ⟨by omega, this.2⟩
theorem many_pf {α : Type} {f : α → List (BitVec 8)} (hf : PF f) : ∀ (l m : List α) (s t : List (BitVec 8)), l.length = m.length → l.flatMap f ++ s = m.flatMap f ++ t → l = m ∧ s = t
  | [], [], s, t, _, h => ⟨rfl, by simpa using h⟩
  | a :: l, b :: m, s, t, hl, h => by
    simp only [List.flatMap_cons, List.append_assoc] at h
    obtain ⟨rfl, h2⟩ := hf _ _ _ _ h
    obtain ⟨rfl, h4⟩ := many_pf hf l m s t (by simpa using hl) h2
    exact ⟨rfl, h4⟩
theorem intsW_pf : PF fun m => (intsW m).B := by
  intro a b s t h
  have ea : ∀ l : List Nat, (intsW l).B = 3#8 :: (numE l.length ++ l.flatMap fun n => (intW n).B) := by
    intro l
    show (listW (l.map intW)).B = _
    simp only [listW, List.length_map, List.flatMap_map]
  simp only [ea, List.cons_append, List.append_assoc, List.cons.injEq, true_and] at h
  obtain ⟨h1, h2⟩ := numE_pf _ _ _ _ h
  exact many_pf intW_pf a b s t h1 h2
theorem textW_pf {x y : ByteArray} {s t : List (BitVec 8)} (h : (textW x).B ++ s = (textW y).B ++ t) : strB x = strB y ∧ s = t := by
  have h' : 2#8 :: (numE x.size ++ (strB x ++ s)) = 2#8 :: (numE y.size ++ (strB y ++ t)) := by
    simpa [textW] using h
  obtain ⟨h1, h2⟩ := numE_pf _ _ _ _ (List.cons.inj h').2
  exact List.append_inj h2 (by rw [strB_len, strB_len, h1])
theorem comB_inj {r e j r' e' j' : Nat} {m k m' k' : List Nat} {x y : ByteArray} (h : comB r e j m k x = comB r' e' j' m' k' y) : m = m' ∧ k = k' ∧ strB x = strB y := by
  have ec : ∀ (r e j : Nat) (m k : List Nat) (x : ByteArray), comB r e j m k x = 3#8 :: (numE 6 ++ ((intW r).B ++ ((intW e).B ++ ((intW j).B ++ ((intsW m).B ++ ((intsW k).B ++ ((textW x).B ++ []))))))) := by
    intro r e j m k x
    rfl
  rw [ec, ec] at h
  have h0 := (numE_pf _ _ _ _ (List.cons.inj h).2).2
  have h1 := (intW_pf _ _ _ _ h0).2
  have h2 := (intW_pf _ _ _ _ h1).2
  have h3 := (intW_pf _ _ _ _ h2).2
  obtain ⟨h4, h5⟩ := intsW_pf _ _ _ _ h3
  obtain ⟨h6, h7⟩ := intsW_pf _ _ _ _ h5
  exact ⟨h4, h6, (textW_pf h7).1⟩
theorem toNat_inj {l m : List Int} (hl : ∀ n ∈ l, 0 ≤ n) (hm : ∀ n ∈ m, 0 ≤ n) (h : l.map Int.toNat = m.map Int.toNat) : l = m := by
  rw [← toNat_map hl, ← toNat_map hm, h]
theorem comI_inj {r e j r' e' j' : Int} {m k m' k' : List Int} {salt second : List (BitVec 8)} (h1 : Right r e j m k) (h2 : Right r' e' j' m' k') (h : comI r e j m k salt = comI r' e' j' m' k' second) : m = m' ∧ k = k' ∧ salt = second := by
  obtain ⟨a, b, c⟩ := comB_inj h
  refine ⟨toNat_inj (fun n hn => (inAll_bound h1.hm n hn).1) (fun n hn => (inAll_bound h2.hm n hn).1) a, toNat_inj (fun n hn => (inAll_bound h1.hk n hn).1) (fun n hn => (inAll_bound h2.hk n hn).1) b, ?_⟩
  rwa [strB_salt, strB_salt] at c
end Go.Proofs.YtmgpkcpalpejcaaDoor
