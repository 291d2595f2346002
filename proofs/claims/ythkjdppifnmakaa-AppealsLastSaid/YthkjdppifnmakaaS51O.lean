/- What a map holds, as a list. -/
import Derived.Test.YthkjdppifnmakaaS51M
namespace Go.Proofs.Ythkjdppifnmakaa
open Go.Pv
set_option maxRecDepth 100000
set_option maxHeartbeats 4000000
def Apart (G F : Store) : Prop := ∀ q ∈ G, snew F q.1
theorem Apart.get {G F : Store} {c : Nat} {o : PObj} (h : Apart G F) (hc : sget F c = some o) : sget (G ++ F) c = some o := by
  induction G with
  | nil => exact hc
  | cons q G ih =>
    obtain ⟨d, x⟩ := q
    have hd := snew_ne (h (d, x) (by simp)) hc
    show (if d = c then some x else sget (G ++ F) c) = some o
    rw [if_neg hd.1]
    exact ih fun q hq => h q (by simp [hq])
theorem Apart.set {G F : Store} {c : Nat} {o o' : PObj} (h : Apart G F) (hc : sget F c = some o) : sset (G ++ F) c o' = G ++ sset F c o' := by
  induction G with
  | nil => rfl
  | cons q G ih =>
    obtain ⟨d, x⟩ := q
    have hd := snew_ne (h (d, x) (by simp)) hc
    show (if d = c then (c, o') :: (G ++ F) else (d, x) :: sset (G ++ F) c o') = (d, x) :: (G ++ sset F c o')
    rw [if_neg hd.1, ih fun q hq => h q (by simp [hq])]
theorem snew_append {G F : Store} {c : Nat} : snew (G ++ F) c ↔ snew G c ∧ snew F c := by
  induction G with
  | nil => simp [snew]
  | cons q G ih =>
    obtain ⟨d, x⟩ := q
    simp only [List.cons_append, snew, ih, and_assoc]
theorem snew_mem {F : Store} {c : Nat} : snew F c ↔ ∀ q ∈ F, ¬ q.1 = c := by
  induction F with
  | nil => simp [snew]
  | cons q F ih =>
    obtain ⟨d, x⟩ := q
    simp only [snew, ih, List.mem_cons, forall_eq_or_imp]
    exact ⟨fun h => ⟨h.1.1, h.2⟩, fun h => ⟨⟨h.1, fun e => h.1 e.symm⟩, h.2⟩⟩
/-- The function g, over these values, gives these elements in some order: whatever the rounds do with stores 'G s', if they leave what else is there. -/
def GivesP (g : FuncId) (fs cs : List PV) (base rest : Store) (xs : List Event) : Prop :=
  ∀ (σ : Type) (G : σ → Store) (inv : List Event → σ → Prop) (l : Nat),
    (∀ F pre (x : Event) s, inv pre s → Apart (G s) F → pre.length < xs.length → PRound P l [x.pv] (G s ++ F) fun e st' => e = .ret (.bool true) ∧ ∃ s', inv (pre ++ [x]) s' ∧ Apart (G s') F ∧ st' = G s' ++ F) →
    ∀ s, inv [] s → Apart (G s) base → PCalls P g (fs ++ [.func (.yield l) [] []] ++ cs) (G s ++ base) fun e st' => e = .ret (.tuple []) ∧ ∃ ys s', ys.Perm xs ∧ inv ys s' ∧ Apart (G s') rest ∧ st' = G s' ++ rest
def EM.list (M : EM) : List Event := M.map (·.2)
theorem mid_le {G F : Store} {r : Nat} {o : PObj} (h : snew G r) : StLe (G ++ (r, o) :: F) ((r, o) :: (G ++ F)) := fun c x hc => by
  by_cases hrc : r = c
  · subst hrc
    have hg := Apart.get (G := G) (F := (r, o) :: F) (c := r) (o := o)
    induction G with
    | nil => exact hc
    | cons q G ih =>
      obtain ⟨d, y⟩ := q
      simp only [snew] at h
      have : sget (G ++ (r, o) :: F) r = some x := by
        have h2 : (if d = r then some y else sget (G ++ (r, o) :: F) r) = some x := hc
        rwa [if_neg h.1.1] at h2
      have := ih h.2 this (fun hap => by
        clear ih hg this hc
        induction G with
        | nil => intro _; simp [sget]
        | cons q G ih =>
          obtain ⟨e, z⟩ := q
          intro _
          simp only [snew] at h
          show (if e = r then some z else sget (G ++ (r, o) :: F) r) = some o
          rw [if_neg h.2.1.1]
          exact ih ⟨h.1, h.2.2⟩ (fun q hq => hap q (by simp [hq])) (by simp [sget]))
      simpa [sget] using this
  · show (if r = c then some o else sget (G ++ F) c) = some x
    rw [if_neg hrc]
    clear h
    induction G with
    | nil => simpa [sget, hrc] using hc
    | cons q G ih =>
      obtain ⟨d, y⟩ := q
      show (if d = c then some y else sget (G ++ F) c) = some x
      have h2 : (if d = c then some y else sget (G ++ (r, o) :: F) c) = some x := hc
      by_cases hdc : d = c
      · rw [if_pos hdc] at h2 ⊢; exact h2
      · rw [if_neg hdc] at h2 ⊢; exact ih h2
theorem app_le {G F : Store} : StLe G (G ++ F) := fun c x hc => by
  induction G with
  | nil => cases hc
  | cons q G ih =>
    obtain ⟨d, y⟩ := q
    show (if d = c then some y else sget (G ++ F) c) = some x
    have h2 : (if d = c then some y else sget G c) = some x := hc
    by_cases hdc : d = c
    · rw [if_pos hdc] at h2 ⊢; exact h2
    · rw [if_neg hdc] at h2 ⊢; exact ih h2
theorem Apart.keys {G : Store} {r m : Nat} {o p o' p' : PObj} {st0 : Store} (h : Apart G ((r, o) :: (m, p) :: st0)) : Apart G ((r, o') :: (m, p') :: st0) := fun q hq => by
  have := h q hq
  simpa [snew] using this
theorem app_le2 {G F F' : Store} (h : StLe F F') : StLe (G ++ F) (G ++ F') := fun c x hc => by
  induction G with
  | nil => exact h c x hc
  | cons q G ih =>
    obtain ⟨d, y⟩ := q
    show (if d = c then some y else sget (G ++ F') c) = some x
    have h2 : (if d = c then some y else sget (G ++ F) c) = some x := hc
    by_cases hdc : d = c
    · rw [if_pos hdc] at h2 ⊢; exact h2
    · rw [if_neg hdc] at h2 ⊢; exact ih h2
def visE (M : EM) (vis : List Nat) : List Event := vis.map fun j => (EM.list M).getD j default
theorem visE_perm {M : EM} {vis : List Nat} (h1 : vis.Nodup) (h2 : ∀ j ∈ vis, j < M.length) (h3 : ∀ j, j < M.length → j ∈ vis) : (visE M vis).Perm (EM.list M) := by
  have hp : vis.Perm (List.range M.length) := (List.perm_ext_iff_of_nodup h1 List.nodup_range).2 fun j => ⟨fun hj => by simpa using h2 j hj, fun hj => h3 j (by simpa using hj)⟩
  refine (hp.map _).trans (List.Perm.of_eq ?_)
  apply List.ext_getElem
  · simp [EM.list]
  · intro i hi1 hi2
    simp only [List.getElem_map, List.getElem_range]
    rw [List.getD_eq_getElem?_getD, List.getElem?_eq_getElem hi2]
    rfl
theorem values1_gives (M : EM) (m : Nat) (st0 : Store) (hm0 : snew st0 m) : GivesP F.maps_Values__appealsevents_int_apiEvent_1 [] [.iptr [.val (.map (some m))] 0] ((m, EM.o M) :: st0) st0 (EM.list M) := by
  intro σ G inv lp hround s hs hap
  have hgm := hap.get (c := m) (o := EM.o M) (by simp [sget])
  refine H.maps_Values__appealsevents_int_apiEvent_1.view hmix rfl rfl ?_
  repeat' (first
    | (with_reducible refine Fresh.intro fun b hb => ?_) <;> (try simp -dsimp -implicitDefEqProofs [*] at hb)
    | (with_reducible refine Lit.imm ?_)
    | ((with_reducible refine Grow.intro ?_ fun b cap hb hc1 hc2 => ?_); omega) <;> (try simp -dsimp -implicitDefEqProofs [*] at hb)
    | (with_reducible refine DrawLate.intro [] ?_)
    | (with_reducible refine Cls_and ?_ ?_)
    | (with_reducible exact Cls.self _ _)
    | (with_reducible refine Cls_same ?_)
    | (with_reducible refine Cls_in ?_ ?_)
    | (with_reducible refine Cls_fresh ?_ ?_)
    | (with_reducible refine And.intro (fun h => ?_) (fun h => ?_)) <;> (try (exfalso; omega))
    | (with_reducible refine And.intro (fun h => ?_) ?_) <;> (try (exfalso; omega))
    | ((with_reducible refine and_keep ?_ fun hk => ?_); omega)
    | (simp -dsimp -implicitDefEqProofs [*]))
  refine xrangeMap_own (ks := KM.ks intKey M) (vs := KM.vs Event.pv M) hgm fun bs clock r h1 h2 h3 h4 => ?_
  have hset : sset (G s ++ ((m, EM.o M) :: st0)) m (.mapB (KM.ks intKey M) (KM.vs Event.pv M) bs clock) = G s ++ ((m, .mapB (KM.ks intKey M) (KM.vs Event.pv M) bs clock) :: st0) := by
    rw [hap.set (c := m) (o := EM.o M) (by simp [sget])]; simp [sset]
  rw [hset]
  have h5 := snew_append.1 h4
  have hr0 : snew st0 r := by have := h5.2; simp only [snew] at this; exact this.2
  have hmr : ¬ m = r ∧ ¬ r = m := by have := h5.2; simp only [snew] at this; exact this.1
  have hap2 : Apart (G s) ((r, .iter m bs clock []) :: (m, .mapB (KM.ks intKey M) (KM.vs Event.pv M) bs clock) :: st0) := fun q hq => by
    have e1 := hap q hq
    have e2 := snew_mem.1 h5.1 q hq
    simp [snew] at e1 ⊢
    exact ⟨⟨fun e => e2 e.symm, e2⟩, e1.1, e1.2⟩
  have hlen : (KM.ks intKey M).length = M.length := by simp
  have hvlen : (KM.vs Event.pv M).length = (KM.ks intKey M).length := by simp
  have hle := mid_le (G := G s) (F := ((m, .mapB (KM.ks intKey M) (KM.vs Event.pv M) bs clock) :: st0)) (r := r) (o := .iter m bs clock []) h5.1
  clear hset hgm h4 h5 hap
  generalize hks : KM.ks intKey M = ks at *
  generalize hvs : KM.vs Event.pv M = vs at *
  repeat' (first
    | (with_reducible refine Fresh.intro fun b hb => ?_) <;> (try simp -dsimp -implicitDefEqProofs [*] at hb)
    | (with_reducible refine Lit.imm ?_)
    | ((with_reducible refine Grow.intro ?_ fun b cap hb hc1 hc2 => ?_); omega) <;> (try simp -dsimp -implicitDefEqProofs [*] at hb)
    | (with_reducible refine DrawLate.intro [] ?_)
    | (with_reducible refine Cls_and ?_ ?_)
    | (with_reducible exact Cls.self _ _)
    | (with_reducible refine Cls_same ?_)
    | (with_reducible refine Cls_in ?_ ?_)
    | (with_reducible refine Cls_fresh ?_ ?_)
    | (with_reducible refine And.intro (fun h => ?_) (fun h => ?_)) <;> (try (exfalso; omega))
    | (with_reducible refine And.intro (fun h => ?_) ?_) <;> (try (exfalso; omega))
    | ((with_reducible refine and_keep ?_ fun hk => ?_); omega)
    | (simp -dsimp -implicitDefEqProofs [*]))
  refine xloop_for (fun y : List Nat × σ => [(0, .func (.yield lp) [] []), (6, .ptr r 0)]) (fun y => G y.2 ++ ((r, .iter m bs clock y.1) :: (m, .mapB ks vs bs clock) :: st0))
    (fun y => inv (visE M y.1) y.2 ∧ Apart (G y.2) ((r, .iter m bs clock y.1) :: (m, .mapB ks vs bs clock) :: st0) ∧ y.1.Nodup ∧ ∀ j ∈ y.1, j < M.length) (fun y => M.length - y.1.length) ([], s) ⟨by simpa [visE] using hs, hap2, by simp, by simp⟩ (by simp) hle ?_
  clear hap2 hle hs
  rintro ⟨vis, s'⟩ ⟨hs, hap, hnd, hvis⟩
  simp only at hs hap hnd hvis
  have hgr := hap.get (c := r) (o := .iter m bs clock vis) (by simp [sget])
  have hgm := hap.get (c := m) (o := .mapB ks vs bs clock) (by simp [sget, hmr])
  repeat' (first
    | (with_reducible refine Fresh.intro fun b hb => ?_) <;> (try simp -dsimp -implicitDefEqProofs [*] at hb)
    | (with_reducible refine Lit.imm ?_)
    | ((with_reducible refine Grow.intro ?_ fun b cap hb hc1 hc2 => ?_); omega) <;> (try simp -dsimp -implicitDefEqProofs [*] at hb)
    | (with_reducible refine DrawLate.intro [] ?_)
    | (with_reducible refine Cls_and ?_ ?_)
    | (with_reducible exact Cls.self _ _)
    | (with_reducible refine Cls_same ?_)
    | (with_reducible refine Cls_in ?_ ?_)
    | (with_reducible refine Cls_fresh ?_ ?_)
    | (with_reducible refine And.intro (fun h => ?_) (fun h => ?_)) <;> (try (exfalso; omega))
    | (with_reducible refine And.intro (fun h => ?_) ?_) <;> (try (exfalso; omega))
    | ((with_reducible refine and_keep ?_ fun hk => ?_); omega)
    | (simp -dsimp -implicitDefEqProofs [*]))
  refine xnext_own hgr hgm h1 hvlen h2 h3 (fun j hj => by rw [hlen]; exact hvis j hj) (fun hall => ?_) (fun j k v hk hv hj => ?_)
  · have hp := visE_perm hnd hvis (fun j hj => hall j (by rw [hlen]; exact hj))
    repeat' (first
      | (with_reducible refine Fresh.intro fun b hb => ?_) <;> (try simp -dsimp -implicitDefEqProofs [*] at hb)
      | (with_reducible refine Lit.imm ?_)
      | ((with_reducible refine Grow.intro ?_ fun b cap hb hc1 hc2 => ?_); omega) <;> (try simp -dsimp -implicitDefEqProofs [*] at hb)
      | (with_reducible refine DrawLate.intro [] ?_)
      | (with_reducible refine Cls_and ?_ ?_)
      | (with_reducible exact Cls.self _ _)
      | (with_reducible refine Cls_same ?_)
      | (with_reducible refine Cls_in ?_ ?_)
      | (with_reducible refine Cls_fresh ?_ ?_)
      | (with_reducible refine And.intro (fun h => ?_) (fun h => ?_)) <;> (try (exfalso; omega))
      | (with_reducible refine And.intro (fun h => ?_) ?_) <;> (try (exfalso; omega))
      | ((with_reducible refine and_keep ?_ fun hk => ?_); omega)
      | (simp -dsimp -implicitDefEqProofs [*]))
    exact .drop (app_le2 (StLe.trans (.fresh hm0) (.fresh (by simp [*])))) ⟨rfl, _, hp, _, hs, fun q hq => (snew_cons _ _ _ _ ▸ (snew_cons _ _ _ _ ▸ hap q hq).2).2, rfl⟩
  · have hjl : j < M.length := by rw [← hlen]; exact (List.getElem?_eq_some_iff.1 hk).1
    obtain ⟨x, hx, rfl⟩ : ∃ x, visE M (vis ++ [j]) = visE M vis ++ [x] ∧ v = Event.pv x := by
      refine ⟨(EM.list M).getD j default, by simp [visE], ?_⟩
      rw [← hvs] at hv
      simp [KM.vs, EM.list, hjl] at hv ⊢
      exact hv.symm
    have hset : sset (G s' ++ ((r, .iter m bs clock vis) :: (m, .mapB ks vs bs clock) :: st0)) r (.iter m bs clock (vis ++ [j])) = G s' ++ ((r, .iter m bs clock (vis ++ [j])) :: (m, .mapB ks vs bs clock) :: st0) := by
      rw [hap.set (c := r) (o := .iter m bs clock vis) (by simp [sget])]; simp [sset]
    rw [hset]
    have hap2 : Apart (G s') ((r, .iter m bs clock (vis ++ [j])) :: (m, .mapB ks vs bs clock) :: st0) := hap.keys
    have hgr2 := hap2.get (c := r) (o := .iter m bs clock (vis ++ [j])) (by simp [sget])
    have hgm2 := hap2.get (c := m) (o := .mapB ks vs bs clock) (by simp [sget, hmr])
    have hnd2 : (vis ++ [j]).Nodup := List.nodup_append.2 ⟨hnd, by simp, fun a ha b hb => by simp at hb; subst hb; rintro rfl; exact hj ha⟩
    have hvis2 : ∀ i ∈ vis ++ [j], i < M.length := fun i hi => by
      rcases List.mem_append.1 hi with hi | hi
      · exact hvis i hi
      · simp at hi; subst hi; exact hjl
    have hlt : vis.length < M.length := by
      have := hnd2.length_le_of_subset (l₂ := List.range M.length) (fun i hi => by simpa using hvis2 i hi)
      simp at this; omega
    clear hset hgr hgm
    repeat' (first
      | (with_reducible refine Fresh.intro fun b hb => ?_) <;> (try simp -dsimp -implicitDefEqProofs [*] at hb)
      | (with_reducible refine Lit.imm ?_)
      | ((with_reducible refine Grow.intro ?_ fun b cap hb hc1 hc2 => ?_); omega) <;> (try simp -dsimp -implicitDefEqProofs [*] at hb)
      | (with_reducible refine DrawLate.intro [] ?_)
      | (with_reducible refine Cls_and ?_ ?_)
      | (with_reducible exact Cls.self _ _)
      | (with_reducible refine Cls_same ?_)
      | (with_reducible refine Cls_in ?_ ?_)
      | (with_reducible refine Cls_fresh ?_ ?_)
      | (with_reducible refine And.intro (fun h => ?_) (fun h => ?_)) <;> (try (exfalso; omega))
      | (with_reducible refine And.intro (fun h => ?_) ?_) <;> (try (exfalso; omega))
      | ((with_reducible refine and_keep ?_ fun hk => ?_); omega)
      | (simp -dsimp -implicitDefEqProofs [*]))
    refine xentry_own hgr2 hgm2 h1 hvlen h2 hk hv ?_
    repeat' (first
      | (with_reducible refine Fresh.intro fun b hb => ?_) <;> (try simp -dsimp -implicitDefEqProofs [*] at hb)
      | (with_reducible refine Lit.imm ?_)
      | ((with_reducible refine Grow.intro ?_ fun b cap hb hc1 hc2 => ?_); omega) <;> (try simp -dsimp -implicitDefEqProofs [*] at hb)
      | (with_reducible refine DrawLate.intro [] ?_)
      | (with_reducible refine Cls_and ?_ ?_)
      | (with_reducible exact Cls.self _ _)
      | (with_reducible refine Cls_same ?_)
      | (with_reducible refine Cls_in ?_ ?_)
      | (with_reducible refine Cls_fresh ?_ ?_)
      | (with_reducible refine And.intro (fun h => ?_) (fun h => ?_)) <;> (try (exfalso; omega))
      | (with_reducible refine And.intro (fun h => ?_) ?_) <;> (try (exfalso; omega))
      | ((with_reducible refine and_keep ?_ fun hk => ?_); omega)
      | (simp -dsimp -implicitDefEqProofs [*]))
    refine xround_post (PRound.le (by simp [*]) (hround _ _ x s' hs hap2 (by simpa [visE, EM.list] using hlt))) fun e st' hq => ?_
    obtain ⟨rfl, s'', hs'', hap3, rfl⟩ := hq
    rw [← hx] at hs''
    repeat' (first
      | (with_reducible refine Fresh.intro fun b hb => ?_) <;> (try simp -dsimp -implicitDefEqProofs [*] at hb)
      | (with_reducible refine Lit.imm ?_)
      | ((with_reducible refine Grow.intro ?_ fun b cap hb hc1 hc2 => ?_); omega) <;> (try simp -dsimp -implicitDefEqProofs [*] at hb)
      | (with_reducible refine DrawLate.intro [] ?_)
      | (with_reducible refine Cls_and ?_ ?_)
      | (with_reducible exact Cls.self _ _)
      | (with_reducible refine Cls_same ?_)
      | (with_reducible refine Cls_in ?_ ?_)
      | (with_reducible refine Cls_fresh ?_ ?_)
      | (with_reducible refine And.intro (fun h => ?_) (fun h => ?_)) <;> (try (exfalso; omega))
      | (with_reducible refine And.intro (fun h => ?_) ?_) <;> (try (exfalso; omega))
      | ((with_reducible refine and_keep ?_ fun hk => ?_); omega)
      | (simp -dsimp -implicitDefEqProofs [*]))
    exact Next.intro (vis ++ [j], s'') ⟨hs'', hap3, hnd2, hvis2⟩ (by simp; omega) (by simp) (StLe.refl _)
theorem appendSeq_spec {g : FuncId} {fs cs : List PV} {base rest : Store} {xs : List Event} (hent : Enters P g) (hy : GivesP g fs cs base rest xs) (hl : xs.length ≤ 8192) :
    PCalls P F.slices_AppendSeq__LapiEvent_apiEvent [.nil, .func (.func g) fs cs] base fun e s => ∃ ys, ys.Perm xs ∧ e = .ret (Event.lst false ys) ∧ s = rest := by
  refine H.slices_AppendSeq__LapiEvent_apiEvent.view hmix rfl rfl ?_
  repeat' (first
    | (with_reducible refine Fresh.intro fun b hb => ?_) <;> (try simp -dsimp -implicitDefEqProofs [*] at hb)
    | (with_reducible refine Lit.imm ?_)
    | ((with_reducible refine Grow.intro ?_ fun b cap hb hc1 hc2 => ?_); omega) <;> (try simp -dsimp -implicitDefEqProofs [*] at hb)
    | (with_reducible refine DrawLate.intro [] ?_)
    | (with_reducible refine Cls_and ?_ ?_)
    | (with_reducible exact Cls.self _ _)
    | (with_reducible refine Cls_same ?_)
    | (with_reducible refine Cls_in ?_ ?_)
    | (with_reducible refine Cls_fresh ?_ ?_)
    | (with_reducible refine And.intro (fun h => ?_) (fun h => ?_)) <;> (try (exfalso; omega))
    | (with_reducible refine And.intro (fun h => ?_) ?_) <;> (try (exfalso; omega))
    | ((with_reducible refine and_keep ?_ fun hk => ?_); omega)
    | (simp -dsimp -implicitDefEqProofs [*]))
  refine xrange_func hent fun key hkey lp hlp => ?_
  simp -dsimp -implicitDefEqProofs [*] at hlp
  refine xcall_post (hy (Option (Acc Event)) (fun a => accS T.apiEvent [(lp, .loop key _ .ready none), (b, .arr T.LapiEvent [accP a])] a)
    (fun pre a => accOk Event.row 9 [(lp, .arr 0 []), (b, .arr 0 [])] a ∧ accL a = pre) lp ?_ none ⟨trivial, rfl⟩ ?_) ?_
  · rintro F _ x a ⟨ha, rfl⟩ hap hlen
    cases a with
    | none =>
      have hF : snew F lp ∧ snew F b := ⟨hap _ (List.mem_cons_self ..), hap _ (List.mem_cons_of_mem _ (List.mem_cons_self ..))⟩
      refine pround_walkS hmix hkey (by simp; rfl) rfl ?_
      clear hkey hy
      simp only [accL_none, List.length_nil] at hlen
      repeat' (first
        | (with_reducible refine Fresh.intro fun b hb => ?_) <;> (try simp -dsimp -implicitDefEqProofs [*] at hb)
        | (with_reducible refine Lit.imm ?_)
        | ((with_reducible refine Grow.intro ?_ fun b cap hb hc1 hc2 => ?_); omega) <;> (try simp -dsimp -implicitDefEqProofs [*] at hb)
        | (with_reducible refine DrawLate.intro [] ?_)
        | (with_reducible refine Cls_and ?_ ?_)
        | (with_reducible exact Cls.self _ _)
        | (with_reducible refine Cls_same ?_)
        | (with_reducible refine Cls_in ?_ ?_)
        | (with_reducible refine Cls_fresh ?_ ?_)
        | (with_reducible refine And.intro (fun h => ?_) (fun h => ?_)) <;> (try (exfalso; omega))
        | (with_reducible refine And.intro (fun h => ?_) ?_) <;> (try (exfalso; omega))
        | ((with_reducible refine and_keep ?_ fun hk => ?_); omega)
        | (simp -dsimp -implicitDefEqProofs [*]))
      refine xappend_acc0 Event.row_len [x] (by simp) (by simp) (by omega) (by omega) fun a' ha' hl' hb' => ?_
      simp -dsimp -implicitDefEqProofs [*] at hb'
      have hl2 := hl'
      repeat' (first
        | (with_reducible refine Fresh.intro fun b hb => ?_) <;> (try simp -dsimp -implicitDefEqProofs [*] at hb)
        | (with_reducible refine Lit.imm ?_)
        | ((with_reducible refine Grow.intro ?_ fun b cap hb hc1 hc2 => ?_); omega) <;> (try simp -dsimp -implicitDefEqProofs [*] at hb)
        | (with_reducible refine DrawLate.intro [] ?_)
        | (with_reducible refine Cls_and ?_ ?_)
        | (with_reducible exact Cls.self _ _)
        | (with_reducible refine Cls_same ?_)
        | (with_reducible refine Cls_in ?_ ?_)
        | (with_reducible refine Cls_fresh ?_ ?_)
        | (with_reducible refine And.intro (fun h => ?_) (fun h => ?_)) <;> (try (exfalso; omega))
        | (with_reducible refine And.intro (fun h => ?_) ?_) <;> (try (exfalso; omega))
        | ((with_reducible refine and_keep ?_ fun hk => ?_); omega)
        | (simp -dsimp -implicitDefEqProofs [*]))
      refine ⟨_, (by repeat' (first | exact StLe.refl _ | (refine StLe_cons (by simp [*]; done) ?_) | (refine StLe_fresh (by simp [*]; done) ?_))), some a', ⟨⟨ha', by simp [*]⟩, by simp_all⟩, ?_, rfl⟩
      intro q hq
      simp at hq
      rcases hq with rfl | rfl | rfl
      · exact hb'.2.2.2
      · exact hF.1
      · exact hF.2
    | some a =>
      have hF : snew F a.b ∧ snew F lp ∧ snew F b := ⟨hap _ (List.mem_cons_self ..), hap _ (List.mem_cons_of_mem _ (List.mem_cons_self ..)), hap _ (List.mem_cons_of_mem _ (List.mem_cons_of_mem _ (List.mem_cons_self ..)))⟩
      obtain ⟨ha, hb2⟩ := ha
      simp only [snew_cons] at hb2
      refine pround_walkS hmix hkey (by simp [*]; rfl) rfl ?_
      clear hkey hy
      simp only [accL_some] at hlen
      repeat' (first
        | (with_reducible refine Fresh.intro fun b hb => ?_) <;> (try simp -dsimp -implicitDefEqProofs [*] at hb)
        | (with_reducible refine Lit.imm ?_)
        | ((with_reducible refine Grow.intro ?_ fun b cap hb hc1 hc2 => ?_); omega) <;> (try simp -dsimp -implicitDefEqProofs [*] at hb)
        | (with_reducible refine DrawLate.intro [] ?_)
        | (with_reducible refine Cls_and ?_ ?_)
        | (with_reducible exact Cls.self _ _)
        | (with_reducible refine Cls_same ?_)
        | (with_reducible refine Cls_in ?_ ?_)
        | (with_reducible refine Cls_fresh ?_ ?_)
        | (with_reducible refine And.intro (fun h => ?_) (fun h => ?_)) <;> (try (exfalso; omega))
        | (with_reducible refine And.intro (fun h => ?_) ?_) <;> (try (exfalso; omega))
        | ((with_reducible refine and_keep ?_ fun hk => ?_); omega)
        | (simp -dsimp -implicitDefEqProofs [*]))
      refine xappend_acc Event.row_len Event.row_append ha (by simp [*]) [x] (by simp) (by simp) (by omega) fun a' ha' hl' hb' => ?_
      simp -dsimp -implicitDefEqProofs [*] at hb'
      have hl2 := hl'
      repeat' (first
        | (with_reducible refine Fresh.intro fun b hb => ?_) <;> (try simp -dsimp -implicitDefEqProofs [*] at hb)
        | (with_reducible refine Lit.imm ?_)
        | ((with_reducible refine Grow.intro ?_ fun b cap hb hc1 hc2 => ?_); omega) <;> (try simp -dsimp -implicitDefEqProofs [*] at hb)
        | (with_reducible refine DrawLate.intro [] ?_)
        | (with_reducible refine Cls_and ?_ ?_)
        | (with_reducible exact Cls.self _ _)
        | (with_reducible refine Cls_same ?_)
        | (with_reducible refine Cls_in ?_ ?_)
        | (with_reducible refine Cls_fresh ?_ ?_)
        | (with_reducible refine And.intro (fun h => ?_) (fun h => ?_)) <;> (try (exfalso; omega))
        | (with_reducible refine And.intro (fun h => ?_) ?_) <;> (try (exfalso; omega))
        | ((with_reducible refine and_keep ?_ fun hk => ?_); omega)
        | (simp -dsimp -implicitDefEqProofs [*]))
      refine ⟨_, (by repeat' (first | exact StLe.refl _ | (refine StLe_cons (by simp [*]; done) ?_) | (refine StLe_fresh (by simp [*]; done) ?_))), some a', ⟨⟨ha', by simp [*]⟩, by simp_all⟩, ?_, rfl⟩
      intro q hq
      simp at hq
      rcases hq with rfl | rfl | rfl
      · simp_all
      · exact hF.2.1
      · exact hF.2.2
  · intro q hq
    simp at hq
    rcases hq with rfl | rfl
    · exact hlp.2
    · exact hb
  · rintro e st' ⟨rfl, ys, a, hp, ⟨ha, hys⟩, hap, rfl⟩
    cases a with
    | none =>
      simp only [accL_none] at hys
      subst hys
      have hsd := sdel_of_new (hap (lp, _) (List.mem_cons_self ..))
      repeat' (first
        | (with_reducible refine Fresh.intro fun b hb => ?_) <;> (try simp -dsimp -implicitDefEqProofs [*] at hb)
        | (with_reducible refine Lit.imm ?_)
        | ((with_reducible refine Grow.intro ?_ fun b cap hb hc1 hc2 => ?_); omega) <;> (try simp -dsimp -implicitDefEqProofs [*] at hb)
        | (with_reducible refine DrawLate.intro [] ?_)
        | (with_reducible refine Cls_and ?_ ?_)
        | (with_reducible exact Cls.self _ _)
        | (with_reducible refine Cls_same ?_)
        | (with_reducible refine Cls_in ?_ ?_)
        | (with_reducible refine Cls_fresh ?_ ?_)
        | (with_reducible refine And.intro (fun h => ?_) (fun h => ?_)) <;> (try (exfalso; omega))
        | (with_reducible refine And.intro (fun h => ?_) ?_) <;> (try (exfalso; omega))
        | ((with_reducible refine and_keep ?_ fun hk => ?_); omega)
        | (simp -dsimp -implicitDefEqProofs [*]))
      have hb0 : snew rest b := hap _ (List.mem_cons_of_mem _ (List.mem_cons_self ..))
      exact .nil1 (.drop (st' := rest) (.fresh hb0) ⟨[], hp, rfl, rfl⟩)
    | some a =>
      simp only [accL_some] at hys
      have hac := ha
      obtain ⟨ha, hb2⟩ := ha
      simp only [snew_cons] at hb2
      have hq : a.l.Perm xs := by rw [hys]; exact hp
      clear hys
      have hsd := sdel_of_new (hap (lp, _) (List.mem_cons_of_mem _ (List.mem_cons_self ..)))
      repeat' (first
        | (with_reducible refine Fresh.intro fun b hb => ?_) <;> (try simp -dsimp -implicitDefEqProofs [*] at hb)
        | (with_reducible refine Lit.imm ?_)
        | ((with_reducible refine Grow.intro ?_ fun b cap hb hc1 hc2 => ?_); omega) <;> (try simp -dsimp -implicitDefEqProofs [*] at hb)
        | (with_reducible refine DrawLate.intro [] ?_)
        | (with_reducible refine Cls_and ?_ ?_)
        | (with_reducible exact Cls.self _ _)
        | (with_reducible refine Cls_same ?_)
        | (with_reducible refine Cls_in ?_ ?_)
        | (with_reducible refine Cls_fresh ?_ ?_)
        | (with_reducible refine And.intro (fun h => ?_) (fun h => ?_)) <;> (try (exfalso; omega))
        | (with_reducible refine And.intro (fun h => ?_) ?_) <;> (try (exfalso; omega))
        | ((with_reducible refine and_keep ?_ fun hk => ?_); omega)
        | (simp -dsimp -implicitDefEqProofs [*]))
      have hb0 : snew rest b := hap _ (List.mem_cons_of_mem _ (List.mem_cons_of_mem _ (List.mem_cons_self ..)))
      have ha0 : snew rest a.b := hap _ (List.mem_cons_self ..)
      refine RetView.accP1 (row := Event.row) (k := 9) (T := T.apiEvent) (o := some a) rfl ⟨ha, ?_⟩ (.drop (st' := rest) (.fresh hb0) ⟨a.l, hq, rfl, rfl⟩)
      simp [*]
theorem collect_spec {g : FuncId} {fs cs : List PV} {base rest : Store} {xs : List Event} (hent : Enters P g) (hy : GivesP g fs cs base rest xs) (hl : xs.length ≤ 8192) :
    PCalls P F.slices_Collect__apiEvent [.func (.func g) fs cs] base fun e s => ∃ ys, ys.Perm xs ∧ e = .ret (Event.lst false ys) ∧ s = rest := by
  refine H.slices_Collect__apiEvent.view hmix rfl rfl ?_
  repeat' (first
    | (with_reducible refine Fresh.intro fun b hb => ?_) <;> (try simp -dsimp -implicitDefEqProofs [*] at hb)
    | (with_reducible refine Lit.imm ?_)
    | ((with_reducible refine Grow.intro ?_ fun b cap hb hc1 hc2 => ?_); omega) <;> (try simp -dsimp -implicitDefEqProofs [*] at hb)
    | (with_reducible refine DrawLate.intro [] ?_)
    | (with_reducible refine Cls_and ?_ ?_)
    | (with_reducible exact Cls.self _ _)
    | (with_reducible refine Cls_same ?_)
    | (with_reducible refine Cls_in ?_ ?_)
    | (with_reducible refine Cls_fresh ?_ ?_)
    | (with_reducible refine And.intro (fun h => ?_) (fun h => ?_)) <;> (try (exfalso; omega))
    | (with_reducible refine And.intro (fun h => ?_) ?_) <;> (try (exfalso; omega))
    | ((with_reducible refine and_keep ?_ fun hk => ?_); omega)
    | (simp -dsimp -implicitDefEqProofs [*]))
  refine xcall_post (appendSeq_spec hent hy hl) fun e s hq => ?_
  obtain ⟨ys, hp, rfl, rfl⟩ := hq
  repeat' (first
    | (with_reducible refine Fresh.intro fun b hb => ?_) <;> (try simp -dsimp -implicitDefEqProofs [*] at hb)
    | (with_reducible refine Lit.imm ?_)
    | ((with_reducible refine Grow.intro ?_ fun b cap hb hc1 hc2 => ?_); omega) <;> (try simp -dsimp -implicitDefEqProofs [*] at hb)
    | (with_reducible refine DrawLate.intro [] ?_)
    | (with_reducible refine Cls_and ?_ ?_)
    | (with_reducible exact Cls.self _ _)
    | (with_reducible refine Cls_same ?_)
    | (with_reducible refine Cls_in ?_ ?_)
    | (with_reducible refine Cls_fresh ?_ ?_)
    | (with_reducible refine And.intro (fun h => ?_) (fun h => ?_)) <;> (try (exfalso; omega))
    | (with_reducible refine And.intro (fun h => ?_) ?_) <;> (try (exfalso; omega))
    | ((with_reducible refine and_keep ?_ fun hk => ?_); omega)
    | (simp -dsimp -implicitDefEqProofs [*]))
  exact .same ⟨ys, hp, rfl, rfl⟩
theorem values_spec (m : Nat) (st : Store) : Rets P F.maps_Values__appealsevents_int_apiEvent [.val (.map (some m))] st (.func (.func F.maps_Values__appealsevents_int_apiEvent_1) [] [.iptr [.val (.map (some m))] 0]) := by
  refine H.maps_Values__appealsevents_int_apiEvent.view hmix rfl rfl ?_
  repeat' (first
    | (with_reducible refine Fresh.intro fun b hb => ?_) <;> (try simp -dsimp -implicitDefEqProofs [*] at hb)
    | (with_reducible refine Lit.imm ?_)
    | ((with_reducible refine Grow.intro ?_ fun b cap hb hc1 hc2 => ?_); omega) <;> (try simp -dsimp -implicitDefEqProofs [*] at hb)
    | (with_reducible refine RetView.nil2 ?_)
    | (with_reducible refine RetView.nil1 ?_)
    | (with_reducible refine RetView.loose2 (t := true) ?_)
    | (with_reducible refine RetView.loose1 (t := true) ?_)
    | (with_reducible refine RetView.fz 1 ?_ ?_)
    | (with_reducible refine RetView.same ?_)
    | (with_reducible refine DrawLate.intro [] ?_)
    | (with_reducible refine Cls_and ?_ ?_)
    | (with_reducible exact Cls.self _ _)
    | (with_reducible refine Cls_same ?_)
    | (with_reducible refine Cls_in ?_ ?_)
    | (with_reducible refine Cls_fresh ?_ ?_)
    | (with_reducible refine And.intro (fun h => ?_) (fun h => ?_)) <;> (try (exfalso; omega))
    | (with_reducible refine And.intro (fun h => ?_) ?_) <;> (try (exfalso; omega))
    | ((with_reducible refine and_keep ?_ fun hk => ?_); omega)
    | (simp -dsimp -implicitDefEqProofs [*]))
end Go.Proofs.Ythkjdppifnmakaa
