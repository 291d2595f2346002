/- Sorting Recs: whole. -/
import Derived.Test.YtgjgcflgjpigpaaS26SI
namespace Go.Proofs.Ytgjgcflgjpigpaa
open Go.Pv
set_option maxRecDepth 100000
set_option maxHeartbeats 4000000
namespace SortRec
def Full (bs : Nat) (Ds : List (List Rec)) : Prop := ∀ c ∈ Ds, c.length = bs ∧ Srtd key c
theorem Full.snoc {bs : Nat} {Ds : List (List Rec)} {c : List Rec} (h : Full bs Ds) (h1 : c.length = bs) (h2 : Srtd key c) : Full bs (Ds ++ [c]) := fun d hd => by
  rcases List.mem_append.1 hd with hd | hd
  · exact h d hd
  · simp at hd; subst hd; exact ⟨h1, h2⟩
theorem Full.len {bs : Nat} : ∀ {Ds : List (List Rec)}, Full bs Ds → Ds.flatten.length = Ds.length * bs
  | [], _ => by simp
  | c :: Ds, h => by
    have h1 := Full.len (Ds := Ds) fun d hd => h d (by simp [hd])
    rw [List.flatten_cons, List.length_append, h1, (h c (by simp)).1, List.length_cons, Nat.succ_mul]; omega
/-- The first rounds: blocks of 20. -/
def Beg (l : List Rec) (a : Nat) (l' : List Rec) : Prop := ∃ Ds, Full 20 Ds ∧ l' = Ds.flatten ++ l.drop a ∧ Stb key (l.take a) Ds.flatten ∧ Ds.flatten.length = a
def CutS (bs : Nat) (l l' : List Rec) : Prop := ∃ Cs last, l' = Cs.flatten ++ last ∧ Full bs Cs ∧ Srtd key last ∧ last.length < bs ∧ Stb key l l'
def MidS (bs : Nat) (l : List Rec) (a : Nat) (l' : List Rec) : Prop := ∃ Ds Cs last, l' = Ds.flatten ++ (Cs.flatten ++ last) ∧ Full (2 * bs) Ds ∧ Full bs Cs ∧ Srtd key last ∧ last.length < bs ∧ Stb key l l' ∧ Ds.flatten.length = a
theorem Beg.step {l l' : List Rec} {a : Nat} (h : Beg l a l') (ha : a + 20 ≤ l.length) : ∃ X L Y l3, l' = X ++ L ++ Y ∧ l3 = X ++ srt key L ++ Y ∧ X.length = a ∧ a + L.length = a + 20 ∧ l3.length = l'.length ∧ Beg l (a + 20) l3 := by
  obtain ⟨Ds, h1, h2, h3, h4⟩ := h
  have e : l.drop a = (l.drop a).take 20 ++ l.drop (a + 20) := by rw [← List.drop_drop, List.take_append_drop]
  have hl : ((l.drop a).take 20).length = 20 := by simp; omega
  refine ⟨Ds.flatten, (l.drop a).take 20, l.drop (a + 20), _, by rw [h2, List.append_assoc, ← e], rfl, h4, by omega, ?_, Ds ++ [srt key ((l.drop a).take 20)], h1.snoc (by simpa using hl) (srt_srtd _), by simp, ?_, by rw [List.flatten_append, List.length_append, h4]; simp; omega⟩
  · rw [h2]; simp; omega
  · rw [List.take_add, List.flatten_append]
    exact h3.app (by simpa using srt_stb _)
theorem Beg.fin {l l' : List Rec} {a : Nat} (h : Beg l a l') (ha : l.length < a + 20) (ha2 : a ≤ l.length) : ∃ X L Y l3, l' = X ++ L ++ Y ∧ l3 = X ++ srt key L ++ Y ∧ X.length = a ∧ a + L.length = l.length ∧ l3.length = l'.length ∧ CutS 20 l l3 := by
  obtain ⟨Ds, h1, h2, h3, h4⟩ := h
  refine ⟨Ds.flatten, l.drop a, [], Ds.flatten ++ srt key (l.drop a), by simp [h2], by simp, h4, by simp; omega, by rw [h2]; simp, Ds, srt key (l.drop a), rfl, h1, srt_srtd _, by simp; omega, ?_⟩
  have := h3.app (srt_stb (key := key) (l.drop a))
  rwa [List.take_append_drop] at this
theorem CutS.mid {bs : Nat} {l l' : List Rec} (h : CutS bs l l') : MidS bs l 0 l' := by
  obtain ⟨Cs, last, h1, h2, h3, h4, h5⟩ := h
  exact ⟨[], Cs, last, by simpa using h1, by simp [Full], h2, h3, h4, h5, rfl⟩
theorem MidS.step {bs : Nat} {l l' : List Rec} {a : Nat} (h : MidS bs l a l') (hb : 0 < bs) (ha : a + 2 * bs ≤ l'.length) : ∃ l3, MrgD l' l3 a (a + bs) (a + 2 * bs) ∧ l3.length = l'.length ∧ MidS bs l (a + 2 * bs) l3 := by
  obtain ⟨Ds, Cs, last, h1, h2, h3, h4, h5, h6, h7⟩ := h
  have hlen := congrArg List.length h1
  rw [List.length_append, List.length_append, h3.len, h7] at hlen
  rcases Cs with _ | ⟨c1, _ | ⟨c2, Cs⟩⟩
  · simp at hlen; omega
  · simp at hlen; omega
  obtain ⟨l1, s1⟩ := h3 c1 (by simp)
  obtain ⟨l2, s2⟩ := h3 c2 (by simp)
  have e1 : l' = Ds.flatten ++ c1 ++ c2 ++ (Cs.flatten ++ last) := by rw [h1]; simp
  refine ⟨Ds.flatten ++ srt key (c1 ++ c2) ++ (Cs.flatten ++ last), ⟨Ds.flatten, c1, c2, Cs.flatten ++ last, e1, rfl, h7, by omega, by omega, by omega, by omega, s1, s2⟩, by rw [e1]; simp; omega,
    Ds ++ [srt key (c1 ++ c2)], Cs, last, by simp, h2.snoc (by simp; omega) (srt_srtd _), fun c hc => h3 c (by simp [hc]), h4, h5, ?_, by rw [List.flatten_append, List.length_append, h7]; simp; omega⟩
  refine h6.trans ?_
  rw [e1, List.append_assoc Ds.flatten c1 c2]
  exact Stb.app (Stb.app (.refl _) (srt_stb _)) (.refl _)
theorem MidS.fin {bs : Nat} {l l' : List Rec} {a : Nat} (h : MidS bs l a l') (hb : 0 < bs) (ha : l'.length < a + 2 * bs) : (a + bs < l'.length → ∃ l3, MrgD l' l3 a (a + bs) l'.length ∧ l3.length = l'.length ∧ CutS (2 * bs) l l3) ∧ (l'.length ≤ a + bs → CutS (2 * bs) l l') := by
  obtain ⟨Ds, Cs, last, h1, h2, h3, h4, h5, h6, h7⟩ := h
  have hlen := congrArg List.length h1
  rw [List.length_append, List.length_append, h3.len, h7] at hlen
  rcases Cs with _ | ⟨c1, _ | ⟨c2, Cs⟩⟩
  · simp at hlen
    exact ⟨fun h => by omega, fun h => ⟨Ds, last, by simpa using h1, h2, h4, by omega, h6⟩⟩
  · simp at hlen
    obtain ⟨l1, s1⟩ := h3 c1 (by simp)
    have e1 : l' = Ds.flatten ++ c1 ++ last ++ [] := by rw [h1]; simp
    constructor
    · intro h
      refine ⟨Ds.flatten ++ srt key (c1 ++ last) ++ [], ⟨Ds.flatten, c1, last, [], e1, rfl, h7, by omega, by omega, by omega, by omega, s1, h4⟩, by rw [e1]; simp, Ds, srt key (c1 ++ last), by simp, h2, srt_srtd _, by simp; omega, ?_⟩
      refine h6.trans ?_
      rw [e1, List.append_assoc Ds.flatten c1 last]
      exact Stb.app (Stb.app (.refl _) (srt_stb _)) (.refl _)
    · intro h
      have : last = [] := List.length_eq_zero_iff.1 (by omega)
      subst this
      exact ⟨Ds, c1, by rw [h1]; simp, h2, s1, by omega, h6⟩
  · have : (Cs.length + 1 + 1) * bs = Cs.length * bs + bs + bs := by rw [Nat.succ_mul, Nat.succ_mul]
    simp at hlen; omega
theorem CutS.fin {bs : Nat} {l l' : List Rec} (h : CutS bs l l') (hb : l'.length ≤ bs) (hb0 : 0 < bs) : l' = srt key l := by
  obtain ⟨Cs, last, h1, h2, h3, h4, h5⟩ := h
  refine srt_uniq ?_ h5
  have hlen := congrArg List.length h1
  rw [List.length_append, h2.len] at hlen
  rcases Cs with _ | ⟨c1, _ | ⟨c2, Cs⟩⟩
  · rw [h1]; simpa using h3
  · simp at hlen
    have : last = [] := List.length_eq_zero_iff.1 (by omega)
    subst this
    rw [h1]
    simpa using (h2 c1 (by simp)).2
  · have : (Cs.length + 1 + 1) * bs = Cs.length * bs + bs + bs := by rw [Nat.succ_mul, Nat.succ_mul]
    simp at hlen; omega
theorem stable_spec {l : List Rec} {C : List PV} {b cap N : Nat} (hN : l.length = N) (hN2 : N ≤ 100000) (st : Store) :
    Does P F.slices_stableCmpFunc__apiRecord [.own b 0 N cap, .int (N : Nat), cmpF] ((b, rowO l C) :: st) (.tuple []) ((b, rowO (srt key l) C) :: st) := by
  refine H.slices_stableCmpFunc__apiRecord.view hmix rfl rfl ?_
  repeat' (simp -dsimp -implicitDefEqProofs [*])
  refine xloop_for (fun s : (Nat × Nat) × List Rec => [(0, .own b 0 N cap), (1, .int (N : Nat)), (2, cmpF), (6, .int 20), (7, .int (s.1.1 : Nat)), (8, .int (s.1.2 : Nat))]) (fun s => (b, rowO s.2 C) :: st)
    (fun s => s.1.1 ≤ N ∧ s.1.2 = s.1.1 + 20 ∧ s.2.length = N ∧ Beg l s.1.1 s.2) (fun s => N - s.1.1) ((0, 20), l) ⟨Nat.zero_le _, rfl, hN, [], by simp [Full], by simp, by simp [Stb], rfl⟩ (by simp) (by simp) ?_
  rintro ⟨⟨a, z⟩, l'⟩ ⟨ha, hz, hlen', hB⟩
  simp only at ha hz hlen' hB
  by_cases haz : z ≤ N
  · obtain ⟨X, L, Y, l3, e1, e2, e3, e4, e5, e6⟩ := hB.step (by omega)
    rw [hlen'] at e5
    rw [← hz] at e4 e6
    have hs := insertion_spec (C := C) (b := b) (cap := cap) hlen' hN2 e1 e2 e3 e4 st
    obtain ⟨z2, hz2⟩ : ∃ z2, z2 = z + 20 := ⟨_, rfl⟩
    have hwz : IntKind.i64.wrap ((z : Int) + 20) = (z2 : Int) := by rw [wrap_in (by omega) (by omega)]; omega
    have haz2 : a < z := by omega
    have hH : Hid (z2 = z + 20) := ⟨hz2⟩
    clear e1 e2 e3 e4 hz hz2 hN hB
    repeat' (first 
     | (with_reducible refine Does.xcall (hs) ?_)
     | (simp -dsimp -implicitDefEqProofs [*]))
    exact Next.intro ((z, z2), l3) ⟨haz, hH.out, e5, e6⟩ (by simp only; omega) (by simp) (by repeat' (first | exact StLe.refl _ | (refine StLe_cons (by simp [*]; done) ?_) | (refine StLe_fresh (by simp [*]; done) ?_)))
  obtain ⟨X, L, Y, l3, e1, e2, e3, e4, e5, e6⟩ := hB.fin (by omega) (by omega)
  rw [hlen'] at e5
  rw [hN] at e4
  have hs := insertion_spec (C := C) (b := b) (cap := cap) hlen' hN2 e1 e2 e3 e4 st
  clear e1 e2 e3 e4 hz hB
  repeat' (first 
   | (with_reducible refine Does.xcall (hs) ?_)
   | (simp -dsimp -implicitDefEqProofs [*]))
  refine xloop_for (fun s : Nat × List Rec => [(0, .own b 0 N cap), (1, .int (N : Nat)), (2, cmpF), (6, .int (s.1 : Nat))]) (fun s => (b, rowO s.2 C) :: st)
    (fun s => 20 ≤ s.1 ∧ s.1 ≤ 2 * N + 20 ∧ s.2.length = N ∧ CutS s.1 l s.2) (fun s => N - s.1) (20, l3) ⟨Nat.le_refl _, by simp only; omega, e5, e6⟩ (by simp) (by simp) ?_
  clear hs e5 e6 hlen' haz ha
  rintro ⟨bs, l4⟩ ⟨hbs, hbs2, hl4, hC⟩
  simp only at hbs hbs2 hl4 hC
  by_cases hbN : bs < N
  · obtain ⟨b2, hb2⟩ : ∃ b2, b2 = 2 * bs := ⟨_, rfl⟩
    have hwb : IntKind.i64.wrap (2 * (bs : Int)) = (b2 : Int) := by rw [wrap_in (by omega) (by omega)]; omega
    have hwb2 : IntKind.i64.wrap ((bs : Int) * 2) = (b2 : Int) := by rw [wrap_in (by omega) (by omega)]; omega
    have hM := hC.mid
    have hH2 : Hid (b2 = 2 * bs) := ⟨hb2⟩
    clear hb2 hC
    repeat' (simp -dsimp -implicitDefEqProofs [*])
    refine xloop_for (fun s : (Nat × Nat) × List Rec => [(0, .own b 0 N cap), (1, .int (N : Nat)), (2, cmpF), (6, .int (bs : Nat)), (7, .int (s.1.1 : Nat)), (8, .int (s.1.2 : Nat))]) (fun s => (b, rowO s.2 C) :: st)
      (fun s => s.1.1 ≤ N ∧ s.1.2 = s.1.1 + 2 * bs ∧ s.2.length = N ∧ MidS bs l s.1.1 s.2) (fun s => N - s.1.1) ((0, b2), l4) ⟨Nat.zero_le _, by simp only; have := hH2.out; omega, hl4, hM⟩ (by simp) (by simp) ?_
    clear hM hl4
    rintro ⟨⟨a, z⟩, l5⟩ ⟨ha, hz, hl5, hM⟩
    simp only at ha hz hl5 hM
    by_cases haz : z ≤ N
    · obtain ⟨l6, m1, m2, m3⟩ := hM.step (by omega) (by omega)
      obtain ⟨m, hm⟩ : ∃ m, m = a + bs := ⟨_, rfl⟩
      obtain ⟨z2, hz2⟩ : ∃ z2, z2 = z + b2 := ⟨_, rfl⟩
      have hwm : IntKind.i64.wrap ((a : Int) + bs) = (m : Int) := by rw [wrap_in (by omega) (by omega)]; omega
      have hH2' := hH2.out
      have hwz : IntKind.i64.wrap ((z : Int) + b2) = (z2 : Int) := by rw [wrap_in (by omega) (by omega)]; omega
      rw [← hm, ← hz] at m1
      rw [← hz] at m3
      have hs := symMerge_spec (C := C) (b := b) (cap := cap) hN2 st (z - a) (Nat.le_refl _) hl5 m1
      rw [hl5] at m2
      have haz2 : Hid (a < z ∧ z2 = z + 2 * bs) := ⟨by omega, by omega⟩
      clear m1 hz hz2 hm hM hH2'
      repeat' (first 
       | (with_reducible refine Does.xcall (hs) ?_)
       | (simp -dsimp -implicitDefEqProofs [*]))
      exact Next.intro ((z, z2), l6) ⟨haz, haz2.out.2, m2, m3⟩ (by have := haz2.out; simp only; omega) (by simp) (by repeat' (first | exact StLe.refl _ | (refine StLe_cons (by simp [*]; done) ?_) | (refine StLe_fresh (by simp [*]; done) ?_)))
    obtain ⟨f1, f2⟩ := hM.fin (by omega) (by omega)
    obtain ⟨m, hm⟩ : ∃ m, m = a + bs := ⟨_, rfl⟩
    have hwm : IntKind.i64.wrap ((a : Int) + bs) = (m : Int) := by rw [wrap_in (by omega) (by omega)]; omega
    rw [← hm, hl5] at f1 f2
    by_cases hmN : m < N
    · obtain ⟨l6, m1, m2, m3⟩ := f1 hmN
      have hs := symMerge_spec (C := C) (b := b) (cap := cap) hN2 st (N - a) (Nat.le_refl _) hl5 m1
      have m3' : Hid (CutS b2 l l6 ∧ 20 ≤ b2 ∧ b2 ≤ 2 * N + 20 ∧ bs < b2) := ⟨by rw [hH2.out]; exact m3, by have := hH2.out; omega, by have := hH2.out; omega, by have := hH2.out; omega⟩
      clear m1 m3 f1 f2 hz hm hM
      repeat' (first 
       | (with_reducible refine Does.xcall (hs) ?_)
       | (simp -dsimp -implicitDefEqProofs [*]))
      exact Next.intro (b2, l6) ⟨m3'.out.2.1, m3'.out.2.2.1, m2, m3'.out.1⟩ (by have := m3'.out; simp only; omega) (by simp) (by repeat' (first | exact StLe.refl _ | (refine StLe_cons (by simp [*]; done) ?_) | (refine StLe_fresh (by simp [*]; done) ?_)))
    · have m3' : Hid (CutS b2 l l5 ∧ 20 ≤ b2 ∧ b2 ≤ 2 * N + 20 ∧ bs < b2) := ⟨by rw [hH2.out]; exact f2 (by omega), by have := hH2.out; omega, by have := hH2.out; omega, by have := hH2.out; omega⟩
      clear f1 f2 hz hm hM
      repeat' (simp -dsimp -implicitDefEqProofs [*])
      exact Next.intro (b2, l5) ⟨m3'.out.2.1, m3'.out.2.2.1, hl5, m3'.out.1⟩ (by have := m3'.out; simp only; omega) (by simp) (by repeat' (first | exact StLe.refl _ | (refine StLe_cons (by simp [*]; done) ?_) | (refine StLe_fresh (by simp [*]; done) ?_)))
  · have e : l4 = srt key l := hC.fin (by omega) (by omega)
    clear hC
    repeat' (simp -dsimp -implicitDefEqProofs [*])
    exact .drop (StLe.refl _) ⟨rfl, rfl⟩
end SortRec
end Go.Proofs.Ytgjgcflgjpigpaa
/- Sorted copies of records. -/
namespace Go.Proofs.Ytgjgcflgjpigpaa
open Go.Pv
set_option maxRecDepth 100000
set_option maxHeartbeats 4000000
def CloneR (l : List Rec) (st : Store) (e : PEnd) (s : Store) : Prop :=
  l = [] ∧ e = .ret (.list true [] 0) ∧ s = st ∨ ∃ b cap C, snew st b ∧ l.length ≤ cap ∧ cap ≤ 9223372036854775807 ∧ e = .ret (.own b 0 l.length cap) ∧ s = (b, SortRec.rowO l C) :: st
theorem cloneR_own (t : Bool) (l : List Rec) (hl : l.length ≤ 8192) (st : Store) : PCalls P F.slices_Clone__LapiRecord_apiRecord [.list t (Rec.row l) l.length] st (CloneR l st) := by
  refine H.slices_Clone__LapiRecord_apiRecord.view hmix rfl rfl ?_
  repeat' (first 
   | (with_reducible refine Lit.imm ?_)
   | ((with_reducible refine Grow.intro ?_ fun b cap hb hc1 hc2 => ?_); omega) <;> (try simp -dsimp -implicitDefEqProofs [*] at hb)
   | (with_reducible refine And.intro (fun h => ?_) (fun h => ?_)) <;> (try (exfalso; omega))
   | (with_reducible refine And.intro (fun h => ?_) ?_) <;> (try (exfalso; omega))
   | (simp -dsimp -implicitDefEqProofs [*]))
  · have e : l = [] := by
      have h2 := congrArg List.length h
      rw [Rec.row_len] at h2
      exact List.length_eq_zero_iff.1 (by simp only [List.length_nil] at h2; omega)
    subst e
    exact .sees (.nil _) (.same (.inl ⟨rfl, rfl, rfl⟩))
  · exact .same (.inl ⟨rfl, rfl, rfl⟩)
  · exact .same (.inr ⟨_, _, _, hb, hc1, hc2, rfl, rfl⟩)
theorem sort0R (f : PV) (st : Store) : Rets P F.slices_SortStableFunc__LapiRecord_apiRecord [.list true [] 0, f] st (.tuple []) := by
  have h1 : ∀ st : Store, Rets P F.slices_insertionSortCmpFunc__apiRecord [.list true [] 0, .int 0, .int 0, f] st (.tuple []) := fun st => by
    refine H.slices_insertionSortCmpFunc__apiRecord.pure hmix rfl rfl ?_
    repeat' (simp -dsimp -implicitDefEqProofs [*])
    refine xloop_for (fun _ : Unit => [(2, .int 0), (8, .int 1)]) (fun _ => st) (fun _ => True) (fun _ => 0) () trivial (by simp) (by simp) ?_
    rintro - -
    repeat' (simp -dsimp -implicitDefEqProofs [*])
  have h2 : ∀ st : Store, Rets P F.slices_stableCmpFunc__apiRecord [.list true [] 0, .int 0, f] st (.tuple []) := fun st => by
    refine H.slices_stableCmpFunc__apiRecord.pure hmix rfl rfl ?_
    repeat' (simp -dsimp -implicitDefEqProofs [*])
    refine xloop_for (fun _ : Unit => [(0, .list true [] 0), (1, .int 0), (2, f), (6, .int 20), (7, .int 0), (8, .int 20)]) (fun _ => st) (fun _ => True) (fun _ => 0) () trivial (by simp) (by simp) ?_
    rintro - -
    repeat' (first 
     | (with_reducible refine Rets.xcall (h1 _) ?_)
     | (simp -dsimp -implicitDefEqProofs [*]))
    refine xloop_for (fun _ : Unit => [(1, .int 0), (6, .int 20)]) (fun _ => st) (fun _ => True) (fun _ => 0) () trivial (by simp) (by simp) ?_
    rintro - -
    repeat' (simp -dsimp -implicitDefEqProofs [*])
  refine H.slices_SortStableFunc__LapiRecord_apiRecord.pure hmix rfl rfl ?_
  repeat' (first 
   | (with_reducible refine Rets.xcall (h2 _) ?_)
   | (simp -dsimp -implicitDefEqProofs [*]))
theorem sortR_spec {l : List Rec} {C : List PV} {b cap N : Nat} (hN : l.length = N) (hN2 : N ≤ 100000) (st : Store) :
    Does P F.slices_SortStableFunc__LapiRecord_apiRecord [.own b 0 N cap, SortRec.cmpF] ((b, SortRec.rowO l C) :: st) (.tuple []) ((b, SortRec.rowO (srt SortRec.key l) C) :: st) := by
  have hs := SortRec.stable_spec (C := C) (b := b) (cap := cap) hN hN2 st
  refine H.slices_SortStableFunc__LapiRecord_apiRecord.view hmix rfl rfl ?_
  repeat' (first 
   | (with_reducible refine Does.xcall (hs) ?_)
   | (simp -dsimp -implicitDefEqProofs [*]))
  exact .drop (StLe.refl _) ⟨rfl, rfl⟩
end Go.Proofs.Ytgjgcflgjpigpaa
