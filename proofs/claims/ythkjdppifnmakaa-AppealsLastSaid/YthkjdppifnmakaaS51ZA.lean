/- What becomes of one event: plain facts. -/
import Derived.Test.YthkjdppifnmakaaS51X
import Derived.Test.YthkjdppifnmakaaLFr
namespace Go.Proofs.Ythkjdppifnmakaa
open Go.Pv
set_option maxRecDepth 100000
/-- What a decision makes of the event that it is about. -/
def stepO (o : Option Event) (d : Decision) : Option Event :=
  if d.kind = 1 then none else if d.kind = 2 then
    match o with | some e => if rightE (setVal e d.value) then some (setVal e d.value) else some e | none => none
  else match o with | some e => some e | none => some d.event
abbrev Kd (d : Decision) : Prop := d.kind = 1 ∨ d.kind = 2 ∨ d.kind = 3
theorem look_apply {M : EM} (h : Nos M) {d : Decision} (hk : Kd d) (n : Int) : KM.look (applyD M d) n = if subj d = n then stepO (KM.look M n) d else KM.look M n := by
  rcases hk with hk | hk | hk
  · have hs : subj d = d.target := by simp [subj, hk]
    rw [hs]
    simp only [applyD, hk, strikeM, if_true, KM.look_del h.1, stepO, eq_comm (a := n)]
  · have hs : subj d = d.target := by simp [subj, hk]
    have e1 : applyD M d = alterM M d := by simp [applyD, hk]
    rw [hs, e1]
    unfold alterM
    by_cases hn : d.target = n
    · subst hn
      rw [if_pos rfl]
      cases hl : KM.look M d.target with
      | none => simp [stepO, hk, hl]
      | some e =>
        simp only [stepO, hk]
        by_cases hr : rightE (setVal e d.value) = true
        · simp [hr, KM.look_put]
        · simp [hr, hl]
    · rw [if_neg hn]
      cases hl : KM.look M d.target with
      | none => rfl
      | some e =>
        simp only
        split
        · rw [KM.look_put, if_neg (fun e => hn e.symm)]
        · rfl
  · have hs : subj d = d.eno := by simp [subj, hk]
    have e1 : applyD M d = addM M d := by simp [applyD, hk]
    rw [hs, e1]
    unfold addM
    by_cases hn : d.eno = n
    · subst hn
      rw [if_pos rfl]
      cases hl : KM.look M d.eno with
      | none => simp [stepO, hk, KM.look_put]
      | some e => simp [stepO, hk, hl]
    · rw [if_neg hn]
      cases hl : KM.look M d.eno with
      | none => simp only; rw [KM.look_put, if_neg (fun e => hn e.symm)]
      | some e => rfl
theorem Nos.fold {D : List Decision} : ∀ {M : EM}, Nos M → Nos (D.foldl applyD M) := by
  induction D with
  | nil => intro M h; exact h
  | cons d D ih => intro M h; exact ih (h.apply d)
theorem look_fold {D : List Decision} (n : Int) : ∀ {M : EM}, Nos M → (∀ d ∈ D, Kd d) → KM.look (D.foldl applyD M) n = (aboutL D n).foldl stepO (KM.look M n) := by
  induction D with
  | nil => intro M _ _; rfl
  | cons d D ih =>
    intro M h hk
    rw [List.foldl_cons, ih (h.apply d) fun e he => hk e (by simp [he]), look_apply h (hk d (by simp))]
    unfold aboutL
    by_cases hs : subj d = n
    · rw [List.filter_cons_of_pos (by simpa using hs), if_pos hs]; rfl
    · rw [List.filter_cons_of_neg (by simpa using hs), if_neg hs]
/-- What a record holds under a number. -/
abbrev evO (l : List Event) (n : Int) : Option Event := KM.look (startM l) n
theorem Same.iff {M : EM} {x : List Event} (h : Same M x) {n : Int} {e : Event} : KM.look M n = some e ↔ e ∈ x ∧ e.no = n :=
  ⟨h.look, fun hh => by rw [← hh.2]; exact (h.mem e).1 hh.1⟩
theorem evO_iff {l : List Event} (h : ok l) {n : Int} {e : Event} : evO l n = some e ↔ e ∈ l ∧ e.no = n := (Same.start h.2).iff
theorem ok_alone {l : List Event} (h : ok l) (no : Int) : ok (aloneL l no) := ⟨fun e he => h.1 e (List.mem_filter.1 he).1, h.2.filter _⟩
theorem evO_alone {l : List Event} (h : ok l) (no n : Int) : evO (aloneL l no) n = if n = no then evO l n else none := by
  apply Option.ext
  intro e
  rw [evO_iff (ok_alone h no)]
  unfold aloneL
  rw [List.mem_filter]
  by_cases hn : n = no
  · rw [if_pos hn, evO_iff h]; subst hn; simp
  · rw [if_neg hn]
    simp
    intro _ h1 h2
    exact hn (h2 ▸ h1 ▸ rfl)
theorem look_all {l : List Event} {d : List Decision} {t : Int} (n : Int) : KM.look (applyM l d t) n = (aboutL (standL d t) n).foldl stepO (evO l n) := look_fold n (Nos.start l) standL_kind
theorem applyN_zero {l : List Event} {d : List Decision} {t : Int} : applyN l d t = 0 ↔ checkE l = 0 ∧ standN d t = 0 ∧ (applyM l d t).length ≤ 4096 := by
  unfold applyN
  by_cases h1 : checkE l = 0
  · by_cases h2 : standN d t = 0
    · simp only [h1, h2, ne_eq, not_true, if_false, true_and]
      by_cases h3 : (4096 : Int) < ((applyM l d t).length : Int)
      · rw [if_pos h3]; constructor
        · intro h; cases h
        · intro h; omega
      · rw [if_neg h3]; simp; omega
    · simp [h1, h2]
  · simp [h1]
theorem standN_zero {d : List Decision} {t : Int} : standN d t = 0 ↔ checkD d = 0 ∧ 0 ≤ t ∧ t < 2097152 := by
  unfold standN
  by_cases h1 : checkD d = 0
  · simp only [h1, ne_eq, not_true, if_false, true_and]
    by_cases h2 : t < 0 ∨ 2097152 ≤ t
    · rw [if_pos h2]; omega
    · rw [if_neg h2]; omega
  · simp [h1]
theorem standL_zero {d : List Decision} {t : Int} (h : standN d t = 0) : standL d t = (srt SortDecision.key d).filter (early t) := by simp [standL, h]
/-- What Apply gives, told by events. -/
structure Made (l : List Event) (d : List Decision) (t : Int) (x : List Event) : Prop where
  ev : checkE l = 0
  dec : standN d t = 0
  len : x.length ≤ 4096
  srt : x.Pairwise fun a b => a.no < b.no
  mem : ∀ n e, (aboutL (standL d t) n).foldl stepO (evO l n) = some e ↔ e ∈ x ∧ e.no = n
theorem Made.same {l : List Event} {d : List Decision} {t : Int} {x : List Event} (h : Made l d t x) : Same (applyM l d t) x :=
  ⟨Nos.all l d t, h.srt, fun e => by rw [look_all, h.mem]; simp⟩
theorem Made.out {l : List Event} {d : List Decision} {t : Int} {x : List Event} (h : Made l d t x) : applyN l d t = 0 ∧ applyL l d t = x := by
  have hN : applyN l d t = 0 := applyN_zero.2 ⟨h.ev, h.dec, by rw [← h.same.len]; exact h.len⟩
  refine ⟨hN, ?_⟩
  rw [h.same.uniq]
  unfold applyL
  rw [if_pos hN]
theorem made {l : List Event} {d : List Decision} {t : Int} (h : applyN l d t = 0) : Made l d t (applyL l d t) := by
  obtain ⟨h1, h2, h3⟩ := applyN_zero.1 h
  have hs := same_apply (checkE_zero.1 h1).2 d t
  have e : applyL l d t = refL0 l d t := by rw [hs.uniq]; unfold applyL; rw [if_pos h]
  rw [← e] at hs
  exact ⟨h1, h2, by rw [hs.len]; exact h3, hs.srt, fun n e => by rw [← look_all, hs.iff]⟩
theorem made_iff {l : List Event} {d : List Decision} {t : Int} {x : List Event} : Made l d t x ↔ applyN l d t = 0 ∧ applyL l d t = x :=
  ⟨Made.out, fun ⟨h1, h2⟩ => h2 ▸ made h1⟩
/-- All that is made is right. -/
abbrev RightO (o : Option Event) : Prop := ∀ e, o = some e → rightE e = true
theorem RightO.step {o : Option Event} (h : RightO o) {d : Decision} (hd : rightD d = true) : RightO (stepO o d) := by
  intro e he
  unfold stepO at he
  unfold rightD at hd
  split at he
  · cases he
  · split at he
    · cases o with
      | none => cases he
      | some y =>
        simp only at he
        split at he
        · rename_i hr; cases he; exact hr
        · cases he; exact h _ rfl
    · rename_i h1 h2
      rw [if_neg h1, if_neg h2] at hd
      cases o with
      | none =>
        simp only at he
        cases he
        split at hd
        · simp [addD] at hd; exact hd.2
        · cases hd
      | some y => simp only at he; cases he; exact h _ rfl
theorem RightO.fold {D : List Decision} : ∀ {o : Option Event}, RightO o → (∀ d ∈ D, rightD d = true) → RightO (D.foldl stepO o) := by
  induction D with
  | nil => intro o h _; exact h
  | cons d D ih => intro o h hd; exact ih (h.step (hd d (by simp))) fun e he => hd e (by simp [he])
theorem validD_right {d : Decision} (h : validD d = true) : rightD d = true := by simp [validD] at h; exact h.2
theorem standL_sub {d : List Decision} {t : Int} {x : Decision} (h : x ∈ standL d t) : x ∈ d := by
  unfold standL at h
  split at h
  · exact mem_srt.1 (List.mem_filter.1 h).1
  · cases h
theorem Made.decs {l : List Event} {d : List Decision} {t : Int} {x : List Event} (h : Made l d t x) : d.length ≤ 4096 ∧ okD d := checkD_zero.1 (standN_zero.1 h.dec).1
theorem Made.evs {l : List Event} {d : List Decision} {t : Int} {x : List Event} (h : Made l d t x) : l.length ≤ 4096 ∧ ok l := checkE_zero.1 h.ev
theorem RightO.ev {l : List Event} (h : ok l) (n : Int) : RightO (evO l n) := fun e he => h.1 e ((evO_iff h).1 he).1
theorem Made.right {l : List Event} {d : List Decision} {t : Int} {x : List Event} (h : Made l d t x) (n : Int) : RightO ((aboutL (standL d t) n).foldl stepO (evO l n)) :=
  (RightO.ev h.evs.2 n).fold fun e he => validD_right (h.decs.2.1 e (standL_sub (List.mem_filter.1 he).1))
theorem Made.ok {l : List Event} {d : List Decision} {t : Int} {x : List Event} (h : Made l d t x) : ok x := ⟨fun e he => h.right e.no e ((h.mem e.no e).2 ⟨he, rfl⟩), h.srt⟩
theorem Made.check {l : List Event} {d : List Decision} {t : Int} {x : List Event} (h : Made l d t x) : checkE x = 0 := checkE_zero.2 ⟨h.len, h.ok⟩
theorem Made.evEq {l : List Event} {d : List Decision} {t : Int} {x : List Event} (h : Made l d t x) (n : Int) : evO x n = (aboutL (standL d t) n).foldl stepO (evO l n) := by
  apply Option.ext; intro e; rw [evO_iff h.ok, h.mem]
/-! ### One event alone -/
theorem srt_filter {α : Type} {key : α → Int} (l : List α) (f : α → Bool) : srt key (l.filter f) = (srt key l).filter f :=
  (srt_uniq ((srt_srtd l).filter f) fun v => by
    have := srt_stb (key := key) l v
    rw [List.filter_filter, List.filter_filter, ← List.filter_filter (p := fun a => decide (key a = v)), ← List.filter_filter (p := fun a => decide (key a = v)), List.filter_filter, List.filter_filter]
    have e : ∀ m : List α, m.filter (fun a => decide (key a = v) && f a) = (m.filter (fun a => decide (key a = v))).filter f := fun m => by
      rw [List.filter_filter]; congr 1; funext a; exact Bool.and_comm ..
    rw [e, e, this]).symm
theorem okD_filter {d : List Decision} (h : okD d) (f : Decision → Bool) : okD (d.filter f) := ⟨fun e he => h.1 e (List.mem_filter.1 he).1, h.2.filter f⟩
theorem standN_filter {d : List Decision} {t : Int} (h : standN d t = 0) (f : Decision → Bool) : standN (d.filter f) t = 0 := by
  obtain ⟨h1, h2⟩ := standN_zero.1 h
  obtain ⟨h3, h4⟩ := checkD_zero.1 h1
  exact standN_zero.2 ⟨checkD_zero.2 ⟨Nat.le_trans (List.length_filter_le ..) h3, okD_filter h4 f⟩, h2⟩
theorem standL_filter {d : List Decision} {t : Int} (h : standN d t = 0) (f : Decision → Bool) : standL (d.filter f) t = (standL d t).filter f := by
  rw [standL_zero h, standL_zero (standN_filter h f), srt_filter, List.filter_filter, List.filter_filter]
  congr 1; funext a; exact Bool.and_comm ..
theorem about_about (D : List Decision) (no n : Int) : aboutL (aboutL D no) n = if n = no then aboutL D n else [] := by
  unfold aboutL
  rw [List.filter_filter]
  split
  · rename_i e; subst e; congr 1; funext a; simp
  · rename_i e
    rw [List.filter_eq_nil_iff]
    intro a _ ha
    simp at ha
    exact e (ha.1 ▸ ha.2 ▸ rfl)
theorem Made.alone {l : List Event} {d : List Decision} {t : Int} {x : List Event} (h : Made l d t x) (no : Int) : Made (aloneL l no) (aboutL d no) t (aloneL x no) := by
  refine ⟨checkE_zero.2 ⟨Nat.le_trans (List.length_filter_le ..) h.evs.1, ok_alone h.evs.2 no⟩, standN_filter h.dec _, Nat.le_trans (List.length_filter_le ..) h.len, h.srt.filter _, fun n e => ?_⟩
  have e1 : standL (aboutL d no) t = aboutL (standL d t) no := standL_filter h.dec _
  rw [e1, about_about, evO_alone h.evs.2]
  unfold aloneL
  rw [List.mem_filter]
  by_cases hn : n = no
  · rw [if_pos hn, if_pos hn, h.mem n e]; subst hn; simp
  · rw [if_neg hn, if_neg hn]
    simp
    intro _ h1 h2
    exact hn (h2 ▸ h1 ▸ rfl)
theorem Made.kept {l : List Event} {d : List Decision} {t : Int} {x : List Event} (h : Made l d t x) {no : Int} (hn : aboutL d no = []) : aloneL x no = aloneL l no := by
  have h1 := h.alone no
  rw [hn] at h1
  refine (Made.out (x := aloneL l no) ⟨h1.ev, h1.dec, h1.evs.1, h1.evs.2.2, fun n e => ?_⟩).2.symm.trans h1.out.2 |>.symm
  have : standL [] t = [] := by
    rw [standL_zero h1.dec]; rfl
  rw [this]
  exact evO_iff h1.evs.2
theorem few_e {n m : Nat} (h : fewN n m = true) : n ≤ 4200 ∧ m ≤ 4200 := by
  unfold fewN at h
  simp at h
  omega
end Go.Proofs.Ythkjdppifnmakaa
