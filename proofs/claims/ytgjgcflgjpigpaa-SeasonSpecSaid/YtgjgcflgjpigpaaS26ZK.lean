/- Records, one after the other. -/
import Derived.Test.YtgjgcflgjpigpaaS26SK
import Derived.Test.YtgjgcflgjpigpaaS26RF
import Derived.Test.YtgjgcflgjpigpaaLLx
import Derived.Test.YtgjgcflgjpigpaaLBn
namespace Go.Proofs.Ytgjgcflgjpigpaa
open Go.Pv
set_option maxRecDepth 100000
set_option maxHeartbeats 8000000
/-- The function g, over these values, gives these scores in order: whatever the rounds do with stores 'G s', if they leave what else is there. -/
def GivesL (g : FuncId) (fs cs : List PV) (base rest : Store) (xs : List Rec) : Prop :=
  ∀ (σ : Type) (G : σ → Store) (inv : List Rec → σ → Prop) (l : Nat),
    (∀ F pre (x : Rec) s, inv pre s → Apart (G s) F → pre.length < xs.length → PRound P l [x.pv] (G s ++ F) fun e st' => e = .ret (.bool true) ∧ ∃ s', inv (pre ++ [x]) s' ∧ Apart (G s') F ∧ st' = G s' ++ F) →
    ∀ s, inv [] s → Apart (G s) base → PCalls P g (fs ++ [.func (.yield l) [] []] ++ cs) (G s ++ base) fun e st' => e = .ret (.tuple []) ∧ ∃ s', inv xs s' ∧ Apart (G s') rest ∧ st' = G s' ++ rest
abbrev valR (x : Rec) : Rat := x.score.val
/-- What stands in the row after so many rounds. -/
structure RecI (l : List Rec) (i : Nat) (l' : List Rec) : Prop where
  len : l'.length = l.length
  zero : i = 0 → l' = l
  pos : 0 < i → ∃ r ∈ l, l' = l.set 0 r ∧ topS valR none (l.take i) = some r.score.val
theorem RecI.start (l : List Rec) : RecI l 0 l := ⟨rfl, fun _ => rfl, fun h => absurd h (by omega)⟩
theorem RecI.first {l : List Rec} (h : 0 < l.length) : RecI l 1 l ∧ recs valR none (l.take 1) = [l[0]] ∧ l.set 0 l[0] = l := by
  have e : l.take 1 = [l[0]] := by
    cases l with
    | nil => simp at h
    | cons x l => rfl
  refine ⟨⟨rfl, fun _ => rfl, fun _ => ⟨l[0], List.getElem_mem h, by simp, by rw [e]; rfl⟩⟩, by rw [e]; rfl, by simp⟩
theorem RecI.step {l l' : List Rec} {i : Nat} (h : RecI l i l') (h0 : 0 < i) (hi : i < l.length) : ∃ r ∈ l, (∀ h, l'[0]'h = r) ∧ (∀ h, l'[i]'h = l[i]) ∧
    (r.score.val < l[i].score.val → RecI l (i + 1) (l'.set 0 l[i]) ∧ recs valR none (l.take (i + 1)) = recs valR none (l.take i) ++ [l[i]]) ∧
    (¬ r.score.val < l[i].score.val → RecI l (i + 1) l' ∧ recs valR none (l.take (i + 1)) = recs valR none (l.take i)) := by
  obtain ⟨r, hr, e, ht⟩ := h.pos h0
  have et : l.take (i + 1) = l.take i ++ [l[i]] := List.take_succ_eq_append_getElem hi
  refine ⟨r, hr, fun h => by subst e; simp, fun h => by subst e; rw [List.getElem_set_ne (by omega)], fun hv => ⟨⟨by simp [h.len], fun h => absurd h (by omega), fun _ => ⟨l[i], List.getElem_mem hi, by subst e; simp, ?_⟩⟩, ?_⟩, fun hv => ⟨⟨h.len, fun h => absurd h (by omega), fun _ => ⟨r, hr, e, ?_⟩⟩, ?_⟩⟩
  · rw [et, topS_append, ht]; simp [topS, valR, hv]
  · rw [et, recs_append, ht]; simp [recs, valR, hv]
  · rw [et, topS_append, ht]; simp [topS, valR, hv]
  · rw [et, recs_append, ht]; simp [recs, valR, hv]
theorem recs_pre {l : List Rec} {i : Nat} {x : Rec} (h : recs valR none (l.take (i + 1)) = recs valR none (l.take i) ++ [x]) : (recs valR none (l.take i)).length < (recs valR none l).length := by
  have e : recs valR none l = recs valR none (l.take (i + 1)) ++ recs valR (topS valR none (l.take (i + 1))) (l.drop (i + 1)) := by rw [← recs_append, List.take_append_drop]
  rw [e, h]
  simp
abbrev bookO : PObj := .arr T.seasonbook [.int 0]
abbrev lessF (b : Nat) : PV := .func (.func F.Pseason_book_less) [.ptr b 0] []
/-- Scores can be compared. -/
def CmpAll (l : List Rec) : Prop := ∀ x ∈ l, ∀ y ∈ l, ∀ b st, sget st b = some bookO → Rets P F.Pseason_book_less [.ptr b 0, x.pv, y.pv] st (.bool (decide (x.score.val < y.score.val)))
theorem records1_gives {l : List Rec} {N q bk cap : Nat} (hN : l.length = N) (hN2 : N ≤ 100000) {C : List PV} {st0 : Store} (hq : snew st0 q) (hbk : sget st0 bk = some bookO) (hc : CmpAll l) :
    GivesL F.season_records_1 [] [.iptr [.own q 0 N cap] 0, .iptr [lessF bk] 0] ((q, SortRec.rowO l C) :: st0) st0 (recs valR none l) := by
  intro σ G inv lp hround s hs hap
  have hqb : ¬ q = bk ∧ ¬ bk = q := snew_ne hq hbk
  refine H.season_records_1.view hmix rfl rfl ?_
  repeat' (simp -dsimp -implicitDefEqProofs [*])
  refine xloop_for (fun y : (Nat × List Rec) × σ => [(0, .func (.yield lp) [] []), (1, .iptr [.own q 0 N cap] 0), (2, .iptr [lessF bk] 0), (6, .own q 0 N cap), (7, .int N), (8, .int y.1.1)]) (fun y => G y.2 ++ ((q, SortRec.rowO y.1.2 C) :: st0))
    (fun y => y.1.1 ≤ N ∧ inv (recs valR none (l.take y.1.1)) y.2 ∧ Apart (G y.2) ((q, SortRec.rowO y.1.2 C) :: st0) ∧ Hid (RecI l y.1.1 y.1.2)) (fun y => N - y.1.1) ((0, l), s) ⟨Nat.zero_le _, by simpa [recs] using hs, hap, ⟨RecI.start l⟩⟩ (by simp) (.refl _) ?_
  clear hs hap
  rintro ⟨⟨i, l'⟩, s⟩ ⟨hi, hs, hap, hI⟩
  simp only at hi hs hap hI
  by_cases hiN : i < N
  case neg =>
    obtain rfl : i = N := by omega
    rw [← hN, List.take_length] at hs
    clear hI hround hc
    repeat' (simp -dsimp -implicitDefEqProofs [*])
    exact .drop (app_le2 (.fresh hq)) ⟨rfl, s, hs, fun c hcc => (snew_cons _ _ _ _ ▸ hap c hcc).2, rfl⟩
  have hw := wrap_succ (n := i) (by omega)
  have hgq := hap.get (c := q) (o := SortRec.rowO l' C) (by simp [sget])
  have hgb := hap.get (c := bk) (o := bookO) (by simp [sget, hqb, hbk])
  have hset : ∀ l3, sset (G s ++ ((q, SortRec.rowO l' C) :: st0)) q (SortRec.rowO l3 C) = G s ++ ((q, SortRec.rowO l3 C) :: st0) := fun l3 => by
    rw [hap.set (c := q) (o := SortRec.rowO l' C) (by simp [sget])]; simp [sset]
  have hap3 : ∀ l3, Apart (G s) ((q, SortRec.rowO l3 C) :: st0) := fun l3 c hcc => by
    have := hap c hcc
    simpa [snew] using this
  have hl' : l'.length = N := by rw [hI.out.len]; exact hN
  have hil : i < l.length := by omega
  have hlt : (recs valR none (l.take i)).length < (recs valR none l).length → True := fun _ => trivial
  clear hlt hap
  have si : sub (Rec.row l' ++ C) (i * 7) 7 = some (l'[i]'(by omega)).enc := SortRec.own_sub (by omega)
  have sz : sub (Rec.row l' ++ C) 0 7 = some (l'[0]'(by omega)).enc := by have := SortRec.own_sub (l := l') (i := 0) (C := C) (by omega); simpa using this
  have sset0 : ∀ x : Rec, setCells (Rec.row l' ++ C) 0 x.enc = Rec.row (l'.set 0 x) ++ C := fun x => by have := SortRec.own_set (l := l') (i := 0) (x := x) (C := C) (by omega); simpa using this
  have hBl : (Rec.row l' ++ C).length = N * 7 + C.length := by rw [List.length_append, Rec.row_len, hl']
  have hg0 : i * 7 < N * 7 + C.length ∧ 0 < N * 7 + C.length ∧ 0 < N := by omega
  by_cases h0 : 0 < i
  case neg =>
    have hi0 : i = 0 := by omega
    obtain rfl := hI.out.zero hi0
    have hF : Hid (RecI l' (i + 1) l' ∧ recs valR none (l'.take (i + 1)) = recs valR none (l'.take i) ++ [l'[i]]) := ⟨by
      subst hi0
      obtain ⟨f1, f2, -⟩ := RecI.first hil
      exact ⟨f1, by rw [f2]; simp [recs]⟩⟩
    have es : l'.set 0 l'[i] = l' := by subst hi0; exact (RecI.first hil).2.2
    have s1 := sset0 l'[i]
    rw [es] at s1
    obtain ⟨x, hxe⟩ : ∃ x, x = l'[i] := ⟨_, rfl⟩
    rw [← hxe] at si s1 hF
    have hlen := recs_pre hF.out.2
    clear hI hc sset0 es hxe hi0 sz
    repeat' (first 
     | (with_reducible refine Fresh.intro fun b hb => ?_) <;> (try simp -dsimp -implicitDefEqProofs [*] at hb)
     | (with_reducible refine DrawLate.intro [] ?_)
     | (simp -dsimp -implicitDefEqProofs [*]))
    revert b; intro bx hbx
    have m1 := snew_ne hbx hgq
    have m2 := snew_ne hbx hgb
    repeat' (first 
     | ((with_reducible refine and_keep ?_ fun hk => ?_); omega)
     | (simp -dsimp -implicitDefEqProofs [*]))
    have hbx3 : ∀ l3, snew (G s ++ ((q, SortRec.rowO l3 C) :: st0)) bx := fun l3 => by
      have := snew_append.1 hbx
      exact snew_append.2 ⟨this.1, by simpa [snew] using this.2⟩
    refine xround_post (PRound.le (.fresh (hbx3 _)) (hround _ _ x s hs (hap3 _) hlen)) fun e st' hq => ?_
    obtain ⟨rfl, s'', hs'', hap4, rfl⟩ := hq
    rw [← hF.out.2] at hs''
    clear hs hap3 hround hbx3 hgq hgb hset
    repeat' (simp -dsimp -implicitDefEqProofs [*])
    exact Next.intro ((i + 1, l'), s'') ⟨by simp only; omega, hs'', hap4, ⟨hF.out.1⟩⟩ (by simp only; omega) (by simp) (.refl _)
  obtain ⟨r, hr, g0, gi, kT, kF⟩ := hI.out.step h0 hil
  have hx := List.getElem_mem hil
  rw [g0] at sz
  rw [gi] at si
  obtain ⟨x, hxe⟩ : ∃ x, x = l[i] := ⟨_, rfl⟩
  rw [← hxe] at si kT kF hx
  have hcc := hc r hr x hx bk
  have kT := Hid.mk kT
  have kF := Hid.mk kF
  rename_i kT0 kF0
  clear kT0 kF0 hxe g0 gi hI hc
  by_cases hv : r.score.val < x.score.val
  · have hF : Hid _ := ⟨kT.out hv⟩
    have hlen := recs_pre hF.out.2
    have hdv := decide_eq_true hv
    rw [hdv] at hcc
    have s1 := sset0 x
    clear kT kF hdv sset0
    repeat' (first 
     | (with_reducible refine Fresh.intro fun b hb => ?_) <;> (try simp -dsimp -implicitDefEqProofs [*] at hb)
     | (with_reducible refine DrawLate.intro [] ?_)
     | (simp -dsimp -implicitDefEqProofs [*]))
    revert b; intro bx hbx
    have m1 := snew_ne hbx hgq
    have m2 := snew_ne hbx hgb
    repeat' (first 
     | (with_reducible refine Rets.xcall (hcc _ (by simp [*])) ?_)
     | ((with_reducible refine and_keep ?_ fun hk => ?_); omega)
     | (simp -dsimp -implicitDefEqProofs [*]))
    have hbx3 : ∀ l3, snew (G s ++ ((q, SortRec.rowO l3 C) :: st0)) bx := fun l3 => by
      have := snew_append.1 hbx
      exact snew_append.2 ⟨this.1, by simpa [snew] using this.2⟩
    refine xround_post (PRound.le (.fresh (hbx3 _)) (hround _ _ x s hs (hap3 _) hlen)) fun e st' hq => ?_
    obtain ⟨rfl, s'', hs'', hap4, rfl⟩ := hq
    rw [← hF.out.2] at hs''
    clear hs hap3 hround hbx3 hgq hgb hset
    repeat' (simp -dsimp -implicitDefEqProofs [*])
    exact Next.intro ((i + 1, l'.set 0 x), s'') ⟨by simp only; omega, hs'', hap4, ⟨hF.out.1⟩⟩ (by simp only; omega) (by simp) (.refl _)
  · have hF : Hid _ := ⟨kF.out hv⟩
    have hdv := decide_eq_false hv
    rw [hdv] at hcc
    clear kT kF hdv sset0 hround
    repeat' (first 
     | (with_reducible refine Fresh.intro fun b hb => ?_) <;> (try simp -dsimp -implicitDefEqProofs [*] at hb)
     | (with_reducible refine DrawLate.intro [] ?_)
     | (simp -dsimp -implicitDefEqProofs [*]))
    revert b; intro bx hbx
    have m1 := snew_ne hbx hgq
    have m2 := snew_ne hbx hgb
    repeat' (first 
     | (with_reducible refine Rets.xcall (hcc _ (by simp [*])) ?_)
     | (simp -dsimp -implicitDefEqProofs [*]))
    rw [← hF.out.2] at hs
    exact Next.intro ((i + 1, l'), s) ⟨by simp only; omega, hs, hap3 _, ⟨hF.out.1⟩⟩ (by simp only; omega) (by simp) (.fresh hbx)
end Go.Proofs.Ytgjgcflgjpigpaa
/- Records, collected. -/
namespace Go.Proofs.Ytgjgcflgjpigpaa
open Go.Pv
set_option maxRecDepth 100000
set_option maxHeartbeats 8000000
theorem records_spec {p : PV} (hp : p.cells = some [p]) {bk : Nat} {st : Store} (hbk : sget st bk = some bookO) : Rets P F.season_records [p, lessF bk] st (.func (.func F.season_records_1) [] [.iptr [p] 0, .iptr [lessF bk] 0]) := by
  refine H.season_records.view hmix rfl rfl ?_
  repeat' (first 
   | (with_reducible refine Fresh.intro fun b hb => ?_) <;> (try simp -dsimp -implicitDefEqProofs [*] at hb)
   | (with_reducible refine RetView.fz 1 ?_ ?_)
   | (with_reducible refine RetView.same ?_)
   | (simp -dsimp -implicitDefEqProofs [*]))
  rename_i q2 h2
  exact (snew_ne h2 hbk).2
theorem records1_gives0 (b : Nat) (st0 : Store) : GivesL F.season_records_1 [] [.iptr [.list true [] 0] 0, .iptr [lessF b] 0] st0 st0 [] := by
  intro σ G inv lp hround s hs hap
  refine H.season_records_1.view hmix rfl rfl ?_
  clear hround
  repeat' (simp -dsimp -implicitDefEqProofs [*])
  refine xloop_for (fun _ : Unit => [(7, .int 0), (8, .int 0)]) (fun _ => G s ++ st0) (fun _ => True) (fun _ => 0) () trivial (by simp) (.refl _) ?_
  rintro - -
  repeat' (simp -dsimp -implicitDefEqProofs [*])
  exact .same ⟨rfl, s, hs, hap, rfl⟩
theorem row1 (x : Rec) : Rec.row [x] = x.enc := by simp [Rec.row]
theorem appendSeq_spec {g : FuncId} {fs cs : List PV} {base rest : Store} {xs : List Rec} (hent : Enters P g) (hy : GivesL g fs cs base rest xs) (hl : xs.length ≤ 8192) :
    PCalls P F.slices_AppendSeq__LapiRecord_apiRecord [.nil, .func (.func g) fs cs] base fun e s => e = .ret (Rec.lst xs) ∧ s = rest := by
  refine H.slices_AppendSeq__LapiRecord_apiRecord.view hmix rfl rfl ?_
  repeat' (first 
   | (with_reducible refine Fresh.intro fun b hb => ?_) <;> (try simp -dsimp -implicitDefEqProofs [*] at hb)
   | (simp -dsimp -implicitDefEqProofs [*]))
  refine xrange_func hent fun key hkey lp hlp => ?_
  simp -dsimp -implicitDefEqProofs [*] at hlp
  refine xcall_post (hy (Option (Acc Rec)) (fun a => accS T.apiRecord [(lp, .loop key _ .ready none), (b, .arr T.LapiRecord [accP a])] a)
    (fun pre a => accOk Rec.row 7 [(lp, .arr 0 []), (b, .arr 0 [])] a ∧ accL a = pre) lp ?_ none ⟨trivial, rfl⟩ ?_) ?_
  · rintro F _ x a ⟨ha, rfl⟩ hap hlen
    cases a with
    | none =>
      have hF : snew F lp ∧ snew F b := ⟨hap _ (List.mem_cons_self ..), hap _ (List.mem_cons_of_mem _ (List.mem_cons_self ..))⟩
      refine pround_walkS hmix hkey (by simp; rfl) rfl ?_
      clear hkey hy
      simp only [accL_none, List.length_nil] at hlen
      repeat' (first 
       | (with_reducible refine Fresh.intro fun b hb => ?_) <;> (try simp -dsimp -implicitDefEqProofs [*] at hb)
       | (with_reducible refine Lit.imm ?_)
       | (simp -dsimp -implicitDefEqProofs [*]))
      refine xappend_acc0 Rec.row_len [x] (by simp [row1]) (by simp) (by omega) (by omega) fun a' ha' hl' hb' => ?_
      simp -dsimp -implicitDefEqProofs [*] at hb'
      have hl2 := hl'
      repeat' (simp -dsimp -implicitDefEqProofs [*])
      refine ⟨_, (by repeat' (first | exact StLe.refl _ | (refine StLe_cons (by simp [*]; done) ?_) | (refine StLe_fresh (by simp [*]; done) ?_))), some a', ⟨⟨ha', by simp [*]⟩, by simp_all⟩, ?_, rfl⟩
      intro q hq
      simp at hq
      rcases hq with rfl | rfl | rfl
      · exact hb'.2.2.2
      · exact hF.1
      · exact hF.2
    | some a =>
      have hF : snew F a.b ∧ snew F lp ∧ snew F b := ⟨hap _ (List.mem_cons_self ..), hap _ (List.mem_cons_of_mem _ (List.mem_cons_self ..)), hap _ (List.mem_cons_of_mem _ (List.mem_cons_of_mem _ (List.mem_cons_self ..)))⟩
      obtain ⟨ha, hb2⟩ := ha
      simp only [snew_cons] at hb2
      refine pround_walkS hmix hkey (by simp [*]; rfl) rfl ?_
      clear hkey hy
      simp only [accL_some] at hlen
      repeat' (first 
       | (with_reducible refine Fresh.intro fun b hb => ?_) <;> (try simp -dsimp -implicitDefEqProofs [*] at hb)
       | (with_reducible refine Lit.imm ?_)
       | (simp -dsimp -implicitDefEqProofs [*]))
      refine xappend_acc Rec.row_len Rec.row_append ha (by simp [*]) [x] (by simp [row1]) (by simp) (by omega) fun a' ha' hl' hb' => ?_
      simp -dsimp -implicitDefEqProofs [*] at hb'
      have hl2 := hl'
      repeat' (simp -dsimp -implicitDefEqProofs [*])
      refine ⟨_, (by repeat' (first | exact StLe.refl _ | (refine StLe_cons (by simp [*]; done) ?_) | (refine StLe_fresh (by simp [*]; done) ?_))), some a', ⟨⟨ha', by simp [*]⟩, by simp_all⟩, ?_, rfl⟩
      intro q hq
      simp at hq
      rcases hq with rfl | rfl | rfl
      · simp_all
      · exact hF.2.1
      · exact hF.2.2
  · intro q hq
    simp at hq
    rcases hq with rfl | rfl
    · exact hlp.2
    · exact hb
  · rintro e st' ⟨rfl, a, ⟨ha, hys⟩, hap, rfl⟩
    cases a with
    | none =>
      simp only [accL_none] at hys
      subst hys
      have hsd := sdel_of_new (hap (lp, _) (List.mem_cons_self ..))
      repeat' (simp -dsimp -implicitDefEqProofs [*])
      have hb0 : snew rest b := hap _ (List.mem_cons_of_mem _ (List.mem_cons_self ..))
      exact .nil1 (.drop (st' := rest) (.fresh hb0) ⟨rfl, rfl⟩)
    | some a =>
      simp only [accL_some] at hys
      have hac := ha
      obtain ⟨ha, hb2⟩ := ha
      simp only [snew_cons] at hb2
      have hq : Hid (a.l = xs) := ⟨hys⟩
      clear hys hy
      have hsd := sdel_of_new (hap (lp, _) (List.mem_cons_of_mem _ (List.mem_cons_self ..)))
      repeat' (simp -dsimp -implicitDefEqProofs [*])
      have hb0 : snew rest b := hap _ (List.mem_cons_of_mem _ (List.mem_cons_of_mem _ (List.mem_cons_self ..)))
      have ha0 : snew rest a.b := hap _ (List.mem_cons_self ..)
      refine RetView.accP1 (row := Rec.row) (k := 7) (T := T.apiRecord) (o := some a) rfl ⟨ha, ?_⟩ (.drop (st' := rest) (.fresh hb0) ⟨by simp only [accL_some, hq.out], rfl⟩)
      simp [*]
theorem collect_spec {g : FuncId} {fs cs : List PV} {base rest : Store} {xs : List Rec} (hent : Enters P g) (hy : GivesL g fs cs base rest xs) (hl : xs.length ≤ 8192) :
    PCalls P F.slices_Collect__apiRecord [.func (.func g) fs cs] base fun e s => e = .ret (Rec.lst xs) ∧ s = rest := by
  refine H.slices_Collect__apiRecord.view hmix rfl rfl ?_
  repeat' (simp -dsimp -implicitDefEqProofs [*])
  refine xcall_post (appendSeq_spec hent hy hl) fun e s hq => ?_
  obtain ⟨rfl, rfl⟩ := hq
  repeat' (simp -dsimp -implicitDefEqProofs [*])
  exact .same ⟨rfl, rfl⟩
end Go.Proofs.Ytgjgcflgjpigpaa
