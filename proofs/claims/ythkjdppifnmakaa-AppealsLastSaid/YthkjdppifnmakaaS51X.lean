/- AppealsSpec. -/
import Derived.Test.YthkjdppifnmakaaS51V
namespace Go.Proofs.Ythkjdppifnmakaa
open Go.Pv
set_option maxRecDepth 100000
set_option maxHeartbeats 4000000
theorem fewNil_spec (tb : Bool) (b : List Decision) (st : Store) : Rets P F.podiumref51_Few [.nil, Decision.lst tb b] st (.bool (fewN 0 b.length)) :=
  (few_spec true tb [] b st).args (show PsLe [.nil, Decision.lst tb b] [Event.lst true [], Decision.lst tb b] from ⟨PLe.nilE, .refl _, trivial⟩)
theorem few_d {n m : Nat} (h : fewN n m = true) : m ≤ 20 ∨ 4096 < m := by
  unfold fewN at h
  simp at h
  omega
theorem spec_law (tt : Bool) (d : List Decision) (t : Int) (st : Store) : Rets P F.podiumlaw51_AppealsSpec [Decision.lst tt d, .int t] st (.bool true) := by
  refine (H.podiumlaw51_AppealsSpec).pure hmix rfl rfl ?_
  cases hf : fewN 0 d.length with
  | false =>
    have hfew := fewNil_spec tt d
    rw [hf] at hfew
    repeat' (first
      | (with_reducible refine Fresh.intro fun b hb => ?_) <;> (try simp -dsimp -implicitDefEqProofs [*] at hb)
      | (with_reducible refine Rets.xcall (sane_spec _) ?_)
      | (with_reducible refine Rets.xsoft (sane_spec _) ?_)
      | (with_reducible refine xlateCall_of (fun _ => sane_spec _) ?_)
      | (with_reducible refine Rets.xcall (hfew _) ?_)
      | (with_reducible refine Rets.xsoft (hfew _) ?_)
      | (with_reducible refine xlateCall_of (fun _ => hfew _) ?_)
      | (with_reducible refine Lit.imm ?_)
      | ((with_reducible refine Grow.intro ?_ fun b cap hb hc1 hc2 => ?_); omega) <;> (try simp -dsimp -implicitDefEqProofs [*] at hb)
      | (with_reducible refine DrawLate.intro [] ?_)
      | (with_reducible refine Cls_and ?_ ?_)
      | (with_reducible exact Cls.self _ _)
      | (with_reducible refine Cls_same ?_)
      | (with_reducible refine Cls_in ?_ ?_)
      | (with_reducible refine Cls_fresh ?_ ?_)
      | (with_reducible refine And.intro (fun h => ?_) (fun h => ?_)) <;> (try (exfalso; omega))
      | (with_reducible refine And.intro (fun h => ?_) ?_) <;> (try (exfalso; omega))
      | ((with_reducible refine and_keep ?_ fun hk => ?_); omega)
      | (simp -dsimp -implicitDefEqProofs [*]))
  | true =>
    have hfew := fewNil_spec tt d
    rw [hf] at hfew
    have hd := few_d hf
    have hl : (standL d t).length ≤ 100000 := by
      refine Nat.le_trans standL_len ?_
      unfold fewN at hf
      simp at hf
      omega
    have hs := fun st => standing_spec tt d t hd st
    have hr := fun st => refStanding_spec tt d t st
    have h1 := fun ta tb st => sameD_l ta tb (standL d t) _ hl rfl st
    clear hf hl
    generalize standL d t = A at *
    generalize standN d t = N at *
    have hc := fun st => checkD_spec tt d st
    have hc2 := fun st => refCheckD_spec tt d st
    generalize checkD d = M at *
    repeat' (first
      | (with_reducible refine Fresh.intro fun b hb => ?_) <;> (try simp -dsimp -implicitDefEqProofs [*] at hb)
      | (with_reducible refine Rets.xcall (sane_spec _) ?_)
      | (with_reducible refine Rets.xsoft (sane_spec _) ?_)
      | (with_reducible refine xlateCall_of (fun _ => sane_spec _) ?_)
      | (with_reducible refine Rets.xcall (hfew _) ?_)
      | (with_reducible refine Rets.xsoft (hfew _) ?_)
      | (with_reducible refine xlateCall_of (fun _ => hfew _) ?_)
      | (with_reducible refine Rets.xcall (hs _) ?_)
      | (with_reducible refine Rets.xsoft (hs _) ?_)
      | (with_reducible refine xlateCall_of (fun _ => hs _) ?_)
      | (with_reducible refine Rets.xcall (hr _) ?_)
      | (with_reducible refine Rets.xsoft (hr _) ?_)
      | (with_reducible refine xlateCall_of (fun _ => hr _) ?_)
      | (with_reducible refine Rets.xcall (h1 _ _ _) ?_)
      | (with_reducible refine Rets.xsoft (h1 _ _ _) ?_)
      | (with_reducible refine xlateCall_of (fun _ => h1 _ _ _) ?_)
      | (with_reducible refine Rets.xcall (hc _) ?_)
      | (with_reducible refine Rets.xsoft (hc _) ?_)
      | (with_reducible refine xlateCall_of (fun _ => hc _) ?_)
      | (with_reducible refine Rets.xcall (hc2 _) ?_)
      | (with_reducible refine Rets.xsoft (hc2 _) ?_)
      | (with_reducible refine xlateCall_of (fun _ => hc2 _) ?_)
      | (with_reducible refine Lit.imm ?_)
      | ((with_reducible refine Grow.intro ?_ fun b cap hb hc1 hc2 => ?_); omega) <;> (try simp -dsimp -implicitDefEqProofs [*] at hb)
      | (with_reducible refine DrawLate.intro [] ?_)
      | (with_reducible refine Cls_and ?_ ?_)
      | (with_reducible exact Cls.self _ _)
      | (with_reducible refine Cls_same ?_)
      | (with_reducible refine Cls_in ?_ ?_)
      | (with_reducible refine Cls_fresh ?_ ?_)
      | (with_reducible refine And.intro (fun h => ?_) (fun h => ?_)) <;> (try (exfalso; omega))
      | (with_reducible refine And.intro (fun h => ?_) ?_) <;> (try (exfalso; omega))
      | ((with_reducible refine and_keep ?_ fun hk => ?_); omega)
      | (simp -dsimp -implicitDefEqProofs [*]))
end Go.Proofs.Ythkjdppifnmakaa
/- What Apply gives, by the reference's steps: plain facts. -/
namespace Go.Proofs.Ythkjdppifnmakaa
open Go.Pv
set_option maxRecDepth 100000
/-- A list in the order of the numbers, and a map, hold the same events. -/
structure Same (M : EM) (x : List Event) : Prop where
  nos : Nos M
  srt : x.Pairwise fun a b => a.no < b.no
  mem : ∀ e, e ∈ x ↔ KM.look M e.no = some e
theorem Same.look {M : EM} {x : List Event} (h : Same M x) {n : Int} {e : Event} (hl : KM.look M n = some e) : e ∈ x ∧ e.no = n := by
  have hn := h.nos.look hl
  exact ⟨(h.mem e).2 (by rw [hn]; exact hl), hn⟩
theorem pw_inj {x : List Event} (h : x.Pairwise fun a b => a.no < b.no) {a b : Event} (ha : a ∈ x) (hb : b ∈ x) (e : a.no = b.no) : a = b := by
  obtain ⟨i, hi, rfl⟩ := List.mem_iff_getElem.1 ha
  obtain ⟨j, hj, rfl⟩ := List.mem_iff_getElem.1 hb
  have hp := List.pairwise_iff_getElem.1 h
  rcases Nat.lt_trichotomy i j with hij | hij | hij
  · have := hp i j hi hj hij; omega
  · subst hij; rfl
  · have := hp j i hj hi hij; omega
theorem Same.uniq {M : EM} {x : List Event} (h : Same M x) : x = Go.Pv.srt SortEvent.key (EM.list M) := by
  have hnd : x.Nodup := h.srt.imp fun hab e => by subst e; omega
  have hnd2 : (EM.list M).Nodup := by
    have := h.nos.keys
    exact (List.pairwise_map.1 this).imp fun hab e => hab (by rw [e])
  have hp : (EM.list M).Perm x := (List.perm_ext_iff_of_nodup hnd2 hnd).2 fun e => by
    rw [h.mem e, EM.list, List.mem_map]
    constructor
    · rintro ⟨q, hq, rfl⟩
      have := (KM.mem_look h.nos.1 (s := q.1) (y := q.2)).2 hq
      rwa [← h.nos.2 q hq] at this
    · intro hl
      exact ⟨(e.no, e), (KM.mem_look h.nos.1).1 hl, rfl⟩
  exact srt_uniq (h.srt.imp fun hab => by show SortEvent.key _ ≤ SortEvent.key _; simp only [SortEvent.key]; omega) (perm_stb h.nos.keys hp)
theorem Same.len {M : EM} {x : List Event} (h : Same M x) : x.length = M.length := by
  rw [h.uniq, srt_length]; simp [EM.list]
theorem Same.none {M : EM} {x : List Event} (h : Same M x) {n : Int} : KM.look M n = none ↔ ∀ e ∈ x, ¬ e.no = n := by
  constructor
  · intro hl e he hn
    have := (h.mem e).1 he
    rw [hn, hl] at this; cases this
  · intro hn
    cases hl : KM.look M n with
    | none => rfl
    | some e =>
      obtain ⟨h1, h2⟩ := h.look hl
      exact absurd h2 (hn e h1)
/-- Without the event that has a number. -/
theorem cut_filter {x : List Event} (h : x.Pairwise fun a b => a.no < b.no) {n : Int} {i : Nat} (hi : i < x.length) (hn : x[i].no = n) : x.take i ++ x.drop (i + 1) = x.filter fun e => decide (e.no ≠ n) := by
  have e : x = x.take i ++ (x[i] :: x.drop (i + 1)) := by rw [← List.drop_eq_getElem_cons hi, List.take_append_drop]
  have hp := List.pairwise_iff_getElem.1 h
  conv => rhs; rw [e]
  rw [List.filter_append, List.filter_cons_of_neg (by simp [hn])]
  congr 1
  · refine (List.filter_eq_self.2 fun a ha => ?_).symm
    obtain ⟨j, hj, rfl⟩ := List.mem_iff_getElem.1 ha
    simp only [List.length_take] at hj
    have := hp j i (by omega) hi (by omega)
    simp; omega
  · refine (List.filter_eq_self.2 fun a ha => ?_).symm
    obtain ⟨j, hj, rfl⟩ := List.mem_iff_getElem.1 ha
    simp only [List.length_drop] at hj
    have := hp i (i + 1 + j) hi (by omega) (by omega)
    simp; omega
theorem Same.strike {M : EM} {x : List Event} (h : Same M x) (n : Int) : Same (M.del n) (x.filter fun e => decide (e.no ≠ n)) := by
  refine ⟨h.nos.del n, h.srt.filter _, fun e => ?_⟩
  rw [List.mem_filter, KM.look_del h.nos.1, h.mem e]
  by_cases hn : e.no = n
  · simp [hn]
  · simp [hn]
theorem Same.put {M : EM} {x : List Event} (h : Same M x) {P Q : List Event} {e : Event} (hx : (x.filter fun f => decide (f.no ≠ e.no)) = P ++ Q) (hP : ∀ p ∈ P, p.no < e.no) (hQ : ∀ q ∈ Q, e.no < q.no) : Same (M.put e.no e) (P ++ e :: Q) := by
  have hs : (P ++ Q).Pairwise fun a b => a.no < b.no := hx ▸ h.srt.filter _
  have hs' := List.pairwise_append.1 hs
  refine ⟨h.nos.put rfl, List.pairwise_append.2 ⟨hs'.1, List.pairwise_cons.2 ⟨hQ, hs'.2.1⟩, fun a ha b hb => ?_⟩, fun f => ?_⟩
  · rcases List.mem_cons.1 hb with rfl | hb
    · exact hP a ha
    · exact hs'.2.2 a ha b hb
  · rw [KM.look_put]
    have hm : f ∈ P ++ e :: Q ↔ f = e ∨ f ∈ P ++ Q := by simp only [List.mem_append, List.mem_cons]; grind
    rw [hm, ← hx, List.mem_filter, h.mem f]
    by_cases hn : f.no = e.no
    · rw [if_pos hn]
      simp [hn]
      exact eq_comm
    · rw [if_neg hn]
      simp [hn]
      intro hfe; rw [hfe] at hn; exact absurd rfl hn
theorem Same.snoc {M : EM} {x : List Event} (h : Same M x) {e : Event} (he : ∀ y ∈ x, y.no < e.no) : Same (M.put e.no e) (x ++ [e]) := by
  have hx : (x.filter fun f => decide (f.no ≠ e.no)) = x ++ [] := by
    rw [List.append_nil, List.filter_eq_self]
    intro y hy
    have := he y hy
    simp; omega
  exact h.put hx he (by simp)
theorem Same.start {l : List Event} (h : l.Pairwise fun a b => a.no < b.no) : Same (startM l) l := by
  have : ∀ (l : List Event) (M : EM) (x : List Event), Same M x → (x ++ l).Pairwise (fun a b => a.no < b.no) → Same (l.foldl (fun M e => M.put e.no e) M) (x ++ l) := by
    intro l
    induction l with
    | nil => intro M x h _; simpa using h
    | cons e l ih =>
      intro M x hs hp
      have h1 := ih (M.put e.no e) (x ++ [e]) (hs.snoc fun y hy => (List.pairwise_append.1 hp).2.2 y hy e (by simp)) (by simpa using hp)
      simpa using h1
  have h1 := this l [] [] ⟨Nos.nil, .nil, by simp [KM.look, KM.at?]⟩ (by simpa using h)
  simpa [startM] using h1
theorem find_some {x : List Event} {n : Int} {i : Nat} (h : x.findIdx? (fun e => decide (e.no = n)) = some i) : ∃ hi : i < x.length, x[i].no = n := by
  rw [List.findIdx?_eq_some_iff_getElem] at h
  exact ⟨h.1, by simpa using h.2.1⟩
theorem find_none {x : List Event} {n : Int} (h : x.findIdx? (fun e => decide (e.no = n)) = none) : ∀ e ∈ x, ¬ e.no = n := by
  rw [List.findIdx?_eq_none_iff] at h
  intro e he
  simpa using h e he
theorem Same.one {M : EM} {x : List Event} (h : Same M x) {d : Decision} (hk : d.kind = 1 ∨ d.kind = 2 ∨ d.kind = 3) : Same (applyD M d) (oneE x d) := by
  unfold oneE
  cases hf : x.findIdx? (fun e => decide (e.no = subj d)) with
  | some i =>
    obtain ⟨hi, hn⟩ := find_some hf
    have hlk : KM.look M (subj d) = some x[i] := by
      have := (h.mem x[i]).1 (List.getElem_mem hi)
      rwa [hn] at this
    have hget : x.getD i default = x[i] := by simp [hi]
    simp only [hget]
    have hcf := cut_filter h.srt hi hn
    rcases hk with hk | hk | hk
    · rw [if_pos hk, hcf]
      have e1 : applyD M d = M.del (subj d) := by simp [applyD, strikeM, subj, hk]
      rw [e1]
      exact h.strike _
    · rw [if_neg (by omega)]
      have hs : subj d = d.target := by simp [subj, hk]
      rw [hs] at hlk hn hcf
      have e1 : applyD M d = if rightE (setVal x[i] d.value) = true then M.put d.target (setVal x[i] d.value) else M := by simp [applyD, alterM, hk, hlk]
      rw [e1]
      by_cases hr : rightE (setVal x[i] d.value) = true
      · rw [if_pos hr, if_pos ⟨hk, hr⟩]
        have hno : (setVal x[i] d.value).no = d.target := hn
        have hp := List.pairwise_iff_getElem.1 h.srt
        have := h.put (e := setVal x[i] d.value) (P := x.take i) (Q := x.drop (i + 1)) (by rw [hno]; exact hcf.symm) (fun p hp' => ?_) (fun q hq => ?_)
        · rwa [hno] at this
        · obtain ⟨j, hj, rfl⟩ := List.mem_iff_getElem.1 hp'
          simp only [List.length_take] at hj
          have := hp j i (by omega) hi (by omega)
          rw [hno, ← hn]
          simpa using this
        · obtain ⟨j, hj, rfl⟩ := List.mem_iff_getElem.1 hq
          simp only [List.length_drop] at hj
          have := hp i (i + 1 + j) hi (by omega) (by omega)
          rw [hno, ← hn]
          simpa using this
      · rw [if_neg hr, if_neg (fun hh => hr hh.2)]
        exact h
    · rw [if_neg (by omega), if_neg (fun hh => by omega)]
      have hs : subj d = d.eno := by simp [subj, hk]
      rw [hs] at hlk
      have e1 : applyD M d = M := by simp [applyD, addM, hk, hlk]
      rw [e1]
      exact h
  | none =>
    have hn := find_none hf
    have hlk := h.none.2 hn
    simp only
    rcases hk with hk | hk | hk
    · rw [if_neg (by omega)]
      have hs : subj d = d.target := by simp [subj, hk]
      have e1 : applyD M d = M.del d.target := by simp [applyD, strikeM, hk]
      have h2 := h.strike d.target
      rw [← e1, List.filter_eq_self.2 (fun e he => by have := hn e he; rw [hs] at this; simpa using this)] at h2
      exact h2
    · rw [if_neg (by omega)]
      have hs : subj d = d.target := by simp [subj, hk]
      rw [hs] at hlk
      have e1 : applyD M d = M := by simp [applyD, alterM, hk, hlk]
      rw [e1]
      exact h
    · rw [if_pos hk]
      have hs : subj d = d.eno := by simp [subj, hk]
      rw [hs] at hlk hn
      have e1 : applyD M d = M.put d.eno d.event := by simp [applyD, addM, hk, hlk]
      rw [e1]
      have hpos : ∀ j (hj : j < x.length), j < posE x d.eno → x[j].no < d.eno := fun j hj hjp => by
        have := List.not_of_lt_findIdx hjp
        simpa using this
      have hp := List.pairwise_iff_getElem.1 h.srt
      refine h.put (e := d.event) (P := x.take (posE x d.eno)) (Q := x.drop (posE x d.eno)) ?_ (fun p hp' => ?_) (fun q hq => ?_)
      · rw [List.take_append_drop, List.filter_eq_self]
        intro e he
        simpa using hn e he
      · obtain ⟨j, hj, rfl⟩ := List.mem_iff_getElem.1 hp'
        simp only [List.length_take] at hj
        have := hpos j (by omega) (by omega)
        simpa using this
      · obtain ⟨j, hj, rfl⟩ := List.mem_iff_getElem.1 hq
        simp only [List.length_drop] at hj
        have hlt : posE x d.eno < x.length := by omega
        have h0 : d.eno ≤ x[posE x d.eno].no := by
          have := List.findIdx_getElem (p := fun e : Event => decide (d.eno ≤ e.no)) (xs := x) (w := hlt)
          exact of_decide_eq_true this
        have h1 : ¬ x[posE x d.eno].no = d.eno := hn _ (List.getElem_mem hlt)
        have h2 : x[posE x d.eno].no ≤ x[posE x d.eno + j].no := by
          rcases Nat.eq_zero_or_pos j with rfl | hj0
          · exact Int.le_refl _
          · have := hp (posE x d.eno) (posE x d.eno + j) hlt (by omega) (by omega); omega
        simp only [List.getElem_drop]
        show d.eno < _
        omega
theorem Same.all {D : List Decision} : ∀ {M : EM} {x : List Event}, Same M x → (∀ d ∈ D, d.kind = 1 ∨ d.kind = 2 ∨ d.kind = 3) → Same (D.foldl applyD M) (D.foldl oneE x) := by
  induction D with
  | nil => intro M x h _; exact h
  | cons d D ih => intro M x h hk; exact ih (h.one (hk d (by simp))) fun e he => hk e (by simp [he])
theorem same_apply {l : List Event} (hok : ok l) (d : List Decision) (t : Int) : Same (applyM l d t) (refL0 l d t) := (Same.start hok.2).all standL_kind
theorem ref_eq (l : List Event) (d : List Decision) (t : Int) : refN l d t = applyN l d t ∧ refL l d t = applyL l d t := by
  by_cases hc : checkE l = 0
  · have hs := same_apply (checkE_zero.1 hc).2 d t
    have hN : refN l d t = applyN l d t := by simp [refN, applyN, hs.len]
    refine ⟨hN, ?_⟩
    unfold refL applyL
    rw [hN, ← hs.uniq]
  · have h1 : refN l d t = checkE l := by simp [refN, hc]
    have h2 : applyN l d t = checkE l := by simp [applyN, hc]
    exact ⟨by rw [h1, h2], by simp [refL, applyL, h1, h2, hc]⟩
theorem applyN_len {l : List Event} {d : List Decision} {t : Int} : (applyL l d t).length ≤ 4096 := by
  unfold applyL
  split
  · rename_i h
    unfold applyN at h
    split at h
    · rename_i h1; exact absurd h h1
    · split at h
      · rename_i h1; exact absurd h h1
      · split at h
        · cases h
        · rename_i h1; simp [EM.list]; omega
  · simp
theorem applySpec_law (ta tb : Bool) (l : List Event) (d : List Decision) (t : Int) (st : Store) : Rets P F.podiumlaw51_AppealsApplySpec [Event.lst ta l, Decision.lst tb d, .int t] st (.bool true) := by
  refine (H.podiumlaw51_AppealsApplySpec).pure hmix rfl rfl ?_
  have hfew := few_spec ta tb l d
  cases hf : fewN l.length d.length with
  | false =>
    rw [hf] at hfew
    repeat' (first
      | (with_reducible refine Fresh.intro fun b hb => ?_) <;> (try simp -dsimp -implicitDefEqProofs [*] at hb)
      | (with_reducible refine Rets.xcall (sane_spec _) ?_)
      | (with_reducible refine Rets.xsoft (sane_spec _) ?_)
      | (with_reducible refine xlateCall_of (fun _ => sane_spec _) ?_)
      | (with_reducible refine Rets.xcall (hfew _) ?_)
      | (with_reducible refine Rets.xsoft (hfew _) ?_)
      | (with_reducible refine xlateCall_of (fun _ => hfew _) ?_)
      | (with_reducible refine Lit.imm ?_)
      | ((with_reducible refine Grow.intro ?_ fun b cap hb hc1 hc2 => ?_); omega) <;> (try simp -dsimp -implicitDefEqProofs [*] at hb)
      | (with_reducible refine DrawLate.intro [] ?_)
      | (with_reducible refine Cls_and ?_ ?_)
      | (with_reducible exact Cls.self _ _)
      | (with_reducible refine Cls_same ?_)
      | (with_reducible refine Cls_in ?_ ?_)
      | (with_reducible refine Cls_fresh ?_ ?_)
      | (with_reducible refine And.intro (fun h => ?_) (fun h => ?_)) <;> (try (exfalso; omega))
      | (with_reducible refine And.intro (fun h => ?_) ?_) <;> (try (exfalso; omega))
      | ((with_reducible refine and_keep ?_ fun hk => ?_); omega)
      | (simp -dsimp -implicitDefEqProofs [*]))
  | true =>
    rw [hf] at hfew
    have hd := few_d hf
    have hl : (applyL l d t).length ≤ 100000 := Nat.le_trans applyN_len (by omega)
    have hs := fun st => apply_spec ta tb l d t hd st
    have hr := fun st => refApply_spec ta tb l d t st
    rw [(ref_eq l d t).1, (ref_eq l d t).2] at hr
    have h1 := fun ta tb st => same_l ta tb (applyL l d t) _ hl rfl st
    clear hf hl
    generalize applyL l d t = A at *
    generalize applyN l d t = N at *
    repeat' (first
      | (with_reducible refine Fresh.intro fun b hb => ?_) <;> (try simp -dsimp -implicitDefEqProofs [*] at hb)
      | (with_reducible refine Rets.xcall (sane_spec _) ?_)
      | (with_reducible refine Rets.xsoft (sane_spec _) ?_)
      | (with_reducible refine xlateCall_of (fun _ => sane_spec _) ?_)
      | (with_reducible refine Rets.xcall (hfew _) ?_)
      | (with_reducible refine Rets.xsoft (hfew _) ?_)
      | (with_reducible refine xlateCall_of (fun _ => hfew _) ?_)
      | (with_reducible refine Rets.xcall (hs _) ?_)
      | (with_reducible refine Rets.xsoft (hs _) ?_)
      | (with_reducible refine xlateCall_of (fun _ => hs _) ?_)
      | (with_reducible refine Rets.xcall (hr _) ?_)
      | (with_reducible refine Rets.xsoft (hr _) ?_)
      | (with_reducible refine xlateCall_of (fun _ => hr _) ?_)
      | (with_reducible refine Rets.xcall (h1 _ _ _) ?_)
      | (with_reducible refine Rets.xsoft (h1 _ _ _) ?_)
      | (with_reducible refine xlateCall_of (fun _ => h1 _ _ _) ?_)
      | (with_reducible refine Lit.imm ?_)
      | ((with_reducible refine Grow.intro ?_ fun b cap hb hc1 hc2 => ?_); omega) <;> (try simp -dsimp -implicitDefEqProofs [*] at hb)
      | (with_reducible refine DrawLate.intro [] ?_)
      | (with_reducible refine Cls_and ?_ ?_)
      | (with_reducible exact Cls.self _ _)
      | (with_reducible refine Cls_same ?_)
      | (with_reducible refine Cls_in ?_ ?_)
      | (with_reducible refine Cls_fresh ?_ ?_)
      | (with_reducible refine And.intro (fun h => ?_) (fun h => ?_)) <;> (try (exfalso; omega))
      | (with_reducible refine And.intro (fun h => ?_) ?_) <;> (try (exfalso; omega))
      | ((with_reducible refine and_keep ?_ fun hk => ?_); omega)
      | (simp -dsimp -implicitDefEqProofs [*]))
end Go.Proofs.Ythkjdppifnmakaa
