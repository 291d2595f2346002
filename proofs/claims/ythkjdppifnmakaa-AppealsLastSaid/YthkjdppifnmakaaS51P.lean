/- Apply. -/
import Derived.Test.YthkjdppifnmakaaS51O
namespace Go.Proofs.Ythkjdppifnmakaa
open Go.Pv
set_option maxRecDepth 100000
set_option maxHeartbeats 4000000
def applyD (M : EM) (d : Decision) : EM := if d.kind = 1 then strikeM M d else if d.kind = 2 then alterM M d else addM M d
def startM (l : List Event) : EM := l.foldl (fun M e => M.put e.no e) []
def applyM (l : List Event) (d : List Decision) (t : Int) : EM := (standL d t).foldl applyD (startM l)
def applyN (l : List Event) (d : List Decision) (t : Int) : Int := if checkE l ≠ 0 then checkE l else if standN d t ≠ 0 then standN d t else if (4096 : Int) < ((applyM l d t).length : Int) then 2 else 0
def applyL (l : List Event) (d : List Decision) (t : Int) : List Event := if applyN l d t = 0 then srt SortEvent.key (EM.list (applyM l d t)) else []
/-- Entries lie under their numbers. -/
def Nos (M : EM) : Prop := KM.wf M ∧ ∀ q ∈ M, q.2.no = q.1
theorem Nos.nil : Nos [] := ⟨KM.wf_nil, by simp⟩
theorem Nos.put {M : EM} (h : Nos M) {n : Int} {e : Event} (he : e.no = n) : Nos (M.put n e) := by
  refine ⟨h.1.put _ _, fun q hq => ?_⟩
  have hq' := (KM.mem_look (h.1.put n e) (s := q.1) (y := q.2)).2 hq
  rw [KM.look_put] at hq'
  split at hq'
  · rename_i hqn; rw [hqn, ← Option.some.inj hq', he]
  · exact h.2 q ((KM.mem_look h.1).1 hq')
theorem Nos.del {M : EM} (h : Nos M) (n : Int) : Nos (M.del n) := by
  refine ⟨h.1.del _, fun q hq => ?_⟩
  rw [KM.del_eq h.1] at hq
  exact h.2 q (List.mem_filter.1 hq).1
theorem Nos.look {M : EM} (h : Nos M) {n : Int} {e : Event} (hl : KM.look M n = some e) : e.no = n := h.2 (n, e) ((KM.mem_look h.1).1 hl)
theorem Nos.apply {M : EM} (h : Nos M) (d : Decision) : Nos (applyD M d) := by
  unfold applyD
  split
  · exact h.del _
  · split
    · unfold alterM
      split
      · rename_i e he
        split
        · exact h.put (by simp [setVal]; exact h.look he)
        · exact h
      · exact h
    · unfold addM
      split
      · exact h
      · exact h.put rfl
theorem Nos.start (l : List Event) : Nos (startM l) := by
  have : ∀ (l : List Event) (M : EM), Nos M → Nos (l.foldl (fun M e => M.put e.no e) M) := by
    intro l
    induction l with
    | nil => exact fun M h => h
    | cons e l ih => exact fun M h => ih _ (h.put rfl)
  exact this l _ .nil
theorem Nos.all (l : List Event) (d : List Decision) (t : Int) : Nos (applyM l d t) := by
  have : ∀ (l : List Decision) (M : EM), Nos M → Nos (l.foldl applyD M) := by
    intro l
    induction l with
    | nil => exact fun M h => h
    | cons e l ih => exact fun M h => ih _ (h.apply e)
  exact this _ _ (.start l)
theorem Nos.keys {M : EM} (h : Nos M) : ((EM.list M).map SortEvent.key).Nodup := by
  have e : (EM.list M).map SortEvent.key = M.map (·.1) := by
    rw [EM.list, List.map_map]
    exact List.map_congr_left fun q hq => h.2 q hq
  rw [e]; exact h.1
theorem perm_stb {α : Type} {key : α → Int} {l m : List α} (hn : (l.map key).Nodup) (h : l.Perm m) : Stb key l m := fun v => by
  have hp := h.filter (fun a => decide (key a = v))
  have hl : ∀ l : List α, (l.map key).Nodup → l.filter (fun a => decide (key a = v)) = [] ∨ ∃ x, l.filter (fun a => decide (key a = v)) = [x] := by
    intro l hn
    induction l with
    | nil => exact .inl rfl
    | cons a l ih =>
      have hn' := List.nodup_cons.1 hn
      by_cases ha : key a = v
      · refine .inr ⟨a, ?_⟩
        rw [List.filter_cons_of_pos (by simpa using ha)]
        have : l.filter (fun a => decide (key a = v)) = [] := by
          rw [List.filter_eq_nil_iff]
          intro b hb hbv
          exact hn'.1 (List.mem_map.2 ⟨b, hb, by simp at hbv; rw [hbv, ha]⟩)
        rw [this]
      · rw [List.filter_cons_of_neg (by simpa using ha)]
        exact ih hn'.2
  rcases hl l hn with e | ⟨x, e⟩
  · rw [e] at hp ⊢; exact hp.nil_eq
  · rw [e] at hp ⊢; exact (List.singleton_perm.1 hp.symm.symm).symm ▸ rfl
theorem srt_perm_eq {M : EM} (h : Nos M) {ys : List Event} (hp : ys.Perm (EM.list M)) : srt SortEvent.key ys = srt SortEvent.key (EM.list M) :=
  (srt_congr (perm_stb h.keys hp.symm)).symm
theorem startM_take {l : List Event} {i : Nat} (h : i < l.length) : startM (l.take (i + 1)) = (startM (l.take i)).put l[i].no l[i] := by
  rw [startM, List.take_succ_eq_append_getElem h, List.foldl_append]; rfl
theorem foldD_take {l : List Decision} {i : Nat} (h : i < l.length) (M : EM) : (l.take (i + 1)).foldl applyD M = applyD ((l.take i).foldl applyD M) l[i] := by
  rw [List.take_succ_eq_append_getElem h, List.foldl_append]; rfl
theorem standL_kind {d : List Decision} {t : Int} : ∀ x ∈ standL d t, x.kind = 1 ∨ x.kind = 2 ∨ x.kind = 3 := by
  intro x hx
  unfold standL at hx
  split at hx
  · rename_i hN
    have hx' := mem_srt.1 (List.mem_filter.1 hx).1
    have hc : checkD d = 0 := by
      unfold standN at hN
      split at hN
      · rename_i h; exact absurd hN h
      · rename_i h; simpa using h
    have hv := (checkD_zero.1 hc).2.1 x hx'
    unfold validD rightD at hv
    simp only [Bool.and_eq_true] at hv
    have := hv.2
    split at this
    · exact .inl ‹_›
    · split at this
      · exact .inr (.inl ‹_›)
      · split at this
        · exact .inr (.inr ‹_›)
        · cases this
  · simp at hx
theorem standL_len {d : List Decision} {t : Int} : (standL d t).length ≤ d.length := by
  unfold standL
  split
  · exact Nat.le_trans (List.length_filter_le ..) (by simp)
  · simp
theorem apply_spec (ta tb : Bool) (l : List Event) (d : List Decision) (t : Int) (hl : d.length ≤ 20 ∨ 4096 < d.length) (st : Store) :
    Rets P F.appeals_Apply [Event.lst ta l, Decision.lst tb d, .int t] st (.tuple [Event.lst false (applyL l d t), .int (applyN l d t)]) := by
  refine H.appeals_Apply.view hmix rfl rfl ?_
  by_cases hc : checkE l = 0
  · obtain ⟨hl1, -⟩ := checkE_zero.1 hc
    by_cases hs : standN d t = 0
    · have hk := standL_kind (d := d) (t := t)
      have hsl : (standL d t).length ≤ 20 := by
        rcases hl with h | h
        · exact Nat.le_trans standL_len h
        · have : standN d t = 2 := by simp [standN, checkD, h]
          omega
      have hN : applyN l d t = if (4096 : Int) < ((applyM l d t).length : Int) then 2 else 0 := by simp [applyN, hc, hs]
      have hnos := Nos.all l d t
      have hMd : applyM l d t = (standL d t).foldl applyD (startM l) := rfl
      unfold applyL
      rw [hN]
      clear hN
      have hsp := standing_spec tb d t hl
      rw [hs] at hsp
      rw [hMd] at hnos ⊢
      clear hs hMd
      generalize standL d t = D at *
      have hnil := KM.nil_obj (pv := Event.pv)
      repeat' (first
        | (with_reducible refine Fresh.intro fun b hb => ?_) <;> (try simp -dsimp -implicitDefEqProofs [*] at hb)
        | (with_reducible refine Rets.xcall (check_spec _ _ _) ?_)
        | (with_reducible refine Rets.xsoft (check_spec _ _ _) ?_)
        | (with_reducible refine xlateCall_of (fun _ => check_spec _ _ _) ?_)
        | (with_reducible refine Rets.xcall (hsp _) ?_)
        | (with_reducible refine Rets.xsoft (hsp _) ?_)
        | (with_reducible refine xlateCall_of (fun _ => hsp _) ?_)
        | (with_reducible refine Rets.xcall (kindsA_spec _) ?_)
        | (with_reducible refine Rets.xsoft (kindsA_spec _) ?_)
        | (with_reducible refine xlateCall_of (fun _ => kindsA_spec _) ?_)
        | (with_reducible refine Lit.imm ?_)
        | ((with_reducible refine Grow.intro ?_ fun b cap hb hc1 hc2 => ?_); omega) <;> (try simp -dsimp -implicitDefEqProofs [*] at hb)
        | (with_reducible refine DrawLate.intro [] ?_)
        | (with_reducible refine Cls_and ?_ ?_)
        | (with_reducible exact Cls.self _ _)
        | (with_reducible refine Cls_same ?_)
        | (with_reducible refine Cls_in ?_ ?_)
        | (with_reducible refine Cls_fresh ?_ ?_)
        | (with_reducible refine And.intro (fun h => ?_) (fun h => ?_)) <;> (try (exfalso; omega))
        | (with_reducible refine And.intro (fun h => ?_) ?_) <;> (try (exfalso; omega))
        | ((with_reducible refine and_keep ?_ fun hk => ?_); omega)
        | (simp -dsimp -implicitDefEqProofs [*]))
      rename_i m hm
      clear hsp hnil
      refine xloop_for (fun i : Nat => [(33, .int (i : Nat)), (32, .int l.length), (31, Event.lst ta l), (9, .val (.map (some m))), (10, .ptr b 0), (8, Decision.lst false D)]) (fun i => (b, .arr T.t4appealskind allKinds) :: (m, EM.o (startM (l.take i))) :: st) (fun i => i ≤ l.length) (fun i => l.length - i) 0 (Nat.zero_le _) (by simp) (by simp [startM, KM.nil_obj]) ?_
      intro i hi
      have hw := wrap_succ (n := i) (by omega)
      by_cases hil : i < l.length
      · have hM2 := startM_take hil
        generalize hM : startM (l.take i) = M at *
        generalize hM3 : startM (l.take (i + 1)) = M' at *
        generalize he : l[i] = e at *
        have hput := KM.int_put Event.pv M e.no
        subst hM2
        clear hnos
        repeat' (first
          | (with_reducible refine Fresh.intro fun b hb => ?_) <;> (try simp -dsimp -implicitDefEqProofs [*] at hb)
          | (with_reducible refine Lit.imm ?_)
          | ((with_reducible refine Grow.intro ?_ fun b cap hb hc1 hc2 => ?_); omega) <;> (try simp -dsimp -implicitDefEqProofs [*] at hb)
          | (with_reducible refine DrawLate.intro [] ?_)
          | (with_reducible refine Cls_and ?_ ?_)
          | (with_reducible exact Cls.self _ _)
          | (with_reducible refine Cls_same ?_)
          | (with_reducible refine Cls_in ?_ ?_)
          | (with_reducible refine Cls_fresh ?_ ?_)
          | (with_reducible refine And.intro (fun h => ?_) (fun h => ?_)) <;> (try (exfalso; omega))
          | (with_reducible refine And.intro (fun h => ?_) ?_) <;> (try (exfalso; omega))
          | ((with_reducible refine and_keep ?_ fun hk => ?_); omega)
          | (simp -dsimp -implicitDefEqProofs [*]))
        exact Next.intro (i + 1) (by omega) (by omega) (by simp [*]) (by rw [hM3]; exact .fresh (by simp [*]))
      have hi2 : l.take i = l := List.take_of_length_le (by omega)
      rw [hi2]
      clear hi2 hi hw
      generalize startM l = M0 at *
      repeat' (first
        | (with_reducible refine Fresh.intro fun b hb => ?_) <;> (try simp -dsimp -implicitDefEqProofs [*] at hb)
        | (with_reducible refine Lit.imm ?_)
        | ((with_reducible refine Grow.intro ?_ fun b cap hb hc1 hc2 => ?_); omega) <;> (try simp -dsimp -implicitDefEqProofs [*] at hb)
        | (with_reducible refine DrawLate.intro [] ?_)
        | (with_reducible refine Cls_and ?_ ?_)
        | (with_reducible exact Cls.self _ _)
        | (with_reducible refine Cls_same ?_)
        | (with_reducible refine Cls_in ?_ ?_)
        | (with_reducible refine Cls_fresh ?_ ?_)
        | (with_reducible refine And.intro (fun h => ?_) (fun h => ?_)) <;> (try (exfalso; omega))
        | (with_reducible refine And.intro (fun h => ?_) ?_) <;> (try (exfalso; omega))
        | ((with_reducible refine and_keep ?_ fun hk => ?_); omega)
        | (simp -dsimp -implicitDefEqProofs [*]))
      refine xloop_for (fun i : Nat => [(44, .int (i : Nat)), (43, .int D.length), (42, Decision.lst false D), (9, .val (.map (some m))), (10, .ptr b 0)]) (fun i => (b, .arr T.t4appealskind allKinds) :: (m, EM.o ((D.take i).foldl applyD M0)) :: st) (fun i => i ≤ D.length) (fun i => D.length - i) 0 (Nat.zero_le _) (by simp) (by simp) ?_
      intro i hi
      have hw := wrap_succ (n := i) (by omega)
      by_cases hiD : i < D.length
      · have hM2 := foldD_take hiD M0
        have hkd := hk _ (List.getElem_mem hiD)
        generalize hM : (D.take i).foldl applyD M0 = M at *
        generalize hM3 : (D.take (i + 1)).foldl applyD M0 = M' at *
        generalize he : D[i] = x at *
        clear hnos hk
        rcases hkd with hk1 | hk1 | hk1
        · have e1 : M' = strikeM M x := by rw [hM2]; simp [applyD, hk1]
          clear hM2
          repeat' (first
            | (with_reducible refine Fresh.intro fun b hb => ?_) <;> (try simp -dsimp -implicitDefEqProofs [*] at hb)
            | (with_reducible refine Lit.imm ?_)
            | ((with_reducible refine Grow.intro ?_ fun b cap hb hc1 hc2 => ?_); omega) <;> (try simp -dsimp -implicitDefEqProofs [*] at hb)
            | (with_reducible refine Cls_and ?_ ?_)
            | (with_reducible exact Cls.self _ _)
            | (with_reducible refine Cls_same ?_)
            | (with_reducible refine Cls_in ?_ ?_)
            | (with_reducible refine Cls_fresh ?_ ?_)
            | (with_reducible refine And.intro (fun h => ?_) (fun h => ?_)) <;> (try (exfalso; omega))
            | (with_reducible refine And.intro (fun h => ?_) ?_) <;> (try (exfalso; omega))
            | ((with_reducible refine and_keep ?_ fun hk => ?_); omega)
            | (simp -dsimp -implicitDefEqProofs [allKinds, *]))
          refine Does.xcall (kinds2a_spec M x m _ (by simp [*])) ?_
          repeat' (first
            | (with_reducible refine Fresh.intro fun b hb => ?_) <;> (try simp -dsimp -implicitDefEqProofs [*] at hb)
            | (with_reducible refine Lit.imm ?_)
            | ((with_reducible refine Grow.intro ?_ fun b cap hb hc1 hc2 => ?_); omega) <;> (try simp -dsimp -implicitDefEqProofs [*] at hb)
            | (with_reducible refine Cls_and ?_ ?_)
            | (with_reducible exact Cls.self _ _)
            | (with_reducible refine Cls_same ?_)
            | (with_reducible refine Cls_in ?_ ?_)
            | (with_reducible refine Cls_fresh ?_ ?_)
            | (with_reducible refine And.intro (fun h => ?_) (fun h => ?_)) <;> (try (exfalso; omega))
            | (with_reducible refine And.intro (fun h => ?_) ?_) <;> (try (exfalso; omega))
            | ((with_reducible refine and_keep ?_ fun hk => ?_); omega)
            | (simp -dsimp -implicitDefEqProofs [allKinds, *]))
          refine Next.intro (i + 1) (by omega) (by omega) (by simp [*]) ?_
          simp only [hM3, e1]
          exact StLe.fresh (by simp [*])
        · have e1 : M' = alterM M x := by rw [hM2]; simp [applyD, hk1]
          clear hM2
          repeat' (first
            | (with_reducible refine Fresh.intro fun b hb => ?_) <;> (try simp -dsimp -implicitDefEqProofs [*] at hb)
            | (with_reducible refine Lit.imm ?_)
            | ((with_reducible refine Grow.intro ?_ fun b cap hb hc1 hc2 => ?_); omega) <;> (try simp -dsimp -implicitDefEqProofs [*] at hb)
            | (with_reducible refine Cls_and ?_ ?_)
            | (with_reducible exact Cls.self _ _)
            | (with_reducible refine Cls_same ?_)
            | (with_reducible refine Cls_in ?_ ?_)
            | (with_reducible refine Cls_fresh ?_ ?_)
            | (with_reducible refine And.intro (fun h => ?_) (fun h => ?_)) <;> (try (exfalso; omega))
            | (with_reducible refine And.intro (fun h => ?_) ?_) <;> (try (exfalso; omega))
            | ((with_reducible refine and_keep ?_ fun hk => ?_); omega)
            | (simp -dsimp -implicitDefEqProofs [allKinds, *]))
          refine Does.xcall (kinds4a_spec M x m _ (by simp [*])) ?_
          repeat' (first
            | (with_reducible refine Fresh.intro fun b hb => ?_) <;> (try simp -dsimp -implicitDefEqProofs [*] at hb)
            | (with_reducible refine Lit.imm ?_)
            | ((with_reducible refine Grow.intro ?_ fun b cap hb hc1 hc2 => ?_); omega) <;> (try simp -dsimp -implicitDefEqProofs [*] at hb)
            | (with_reducible refine Cls_and ?_ ?_)
            | (with_reducible exact Cls.self _ _)
            | (with_reducible refine Cls_same ?_)
            | (with_reducible refine Cls_in ?_ ?_)
            | (with_reducible refine Cls_fresh ?_ ?_)
            | (with_reducible refine And.intro (fun h => ?_) (fun h => ?_)) <;> (try (exfalso; omega))
            | (with_reducible refine And.intro (fun h => ?_) ?_) <;> (try (exfalso; omega))
            | ((with_reducible refine and_keep ?_ fun hk => ?_); omega)
            | (simp -dsimp -implicitDefEqProofs [allKinds, *]))
          refine Next.intro (i + 1) (by omega) (by omega) (by simp [*]) ?_
          simp only [hM3, e1]
          exact StLe.fresh (by simp [*])
        · have e1 : M' = addM M x := by rw [hM2]; simp [applyD, hk1]
          clear hM2
          repeat' (first
            | (with_reducible refine Fresh.intro fun b hb => ?_) <;> (try simp -dsimp -implicitDefEqProofs [*] at hb)
            | (with_reducible refine Lit.imm ?_)
            | ((with_reducible refine Grow.intro ?_ fun b cap hb hc1 hc2 => ?_); omega) <;> (try simp -dsimp -implicitDefEqProofs [*] at hb)
            | (with_reducible refine Cls_and ?_ ?_)
            | (with_reducible exact Cls.self _ _)
            | (with_reducible refine Cls_same ?_)
            | (with_reducible refine Cls_in ?_ ?_)
            | (with_reducible refine Cls_fresh ?_ ?_)
            | (with_reducible refine And.intro (fun h => ?_) (fun h => ?_)) <;> (try (exfalso; omega))
            | (with_reducible refine And.intro (fun h => ?_) ?_) <;> (try (exfalso; omega))
            | ((with_reducible refine and_keep ?_ fun hk => ?_); omega)
            | (simp -dsimp -implicitDefEqProofs [allKinds, *]))
          refine Does.xcall (kinds6a_spec M x m _ (by simp [*])) ?_
          repeat' (first
            | (with_reducible refine Fresh.intro fun b hb => ?_) <;> (try simp -dsimp -implicitDefEqProofs [*] at hb)
            | (with_reducible refine Lit.imm ?_)
            | ((with_reducible refine Grow.intro ?_ fun b cap hb hc1 hc2 => ?_); omega) <;> (try simp -dsimp -implicitDefEqProofs [*] at hb)
            | (with_reducible refine Cls_and ?_ ?_)
            | (with_reducible exact Cls.self _ _)
            | (with_reducible refine Cls_same ?_)
            | (with_reducible refine Cls_in ?_ ?_)
            | (with_reducible refine Cls_fresh ?_ ?_)
            | (with_reducible refine And.intro (fun h => ?_) (fun h => ?_)) <;> (try (exfalso; omega))
            | (with_reducible refine And.intro (fun h => ?_) ?_) <;> (try (exfalso; omega))
            | ((with_reducible refine and_keep ?_ fun hk => ?_); omega)
            | (simp -dsimp -implicitDefEqProofs [allKinds, *]))
          refine Next.intro (i + 1) (by omega) (by omega) (by simp [*]) ?_
          simp only [hM3, e1]
          exact StLe.fresh (by simp [*])
      have hi2 : D.take i = D := List.take_of_length_le (by omega)
      rw [hi2]
      clear hi2 hi hw hk
      generalize D.foldl applyD M0 = M at *
      repeat' (first
        | (with_reducible refine Fresh.intro fun b hb => ?_) <;> (try simp -dsimp -implicitDefEqProofs [*] at hb)
        | (with_reducible refine Rets.xcall (values_spec _ _) ?_)
        | (with_reducible refine Rets.xsoft (values_spec _ _) ?_)
        | (with_reducible refine xlateCall_of (fun _ => values_spec _ _) ?_)
        | (with_reducible refine Lit.imm ?_)
        | ((with_reducible refine Grow.intro ?_ fun b cap hb hc1 hc2 => ?_); omega) <;> (try simp -dsimp -implicitDefEqProofs [*] at hb)
        | (with_reducible refine DrawLate.intro [] ?_)
        | (with_reducible refine Cls_and ?_ ?_)
        | (with_reducible exact Cls.self _ _)
        | (with_reducible refine Cls_same ?_)
        | (with_reducible refine Cls_in ?_ ?_)
        | (with_reducible refine Cls_fresh ?_ ?_)
        | (with_reducible refine And.intro (fun h => ?_) (fun h => ?_)) <;> (try (exfalso; omega))
        | (with_reducible refine And.intro (fun h => ?_) ?_) <;> (try (exfalso; omega))
        | ((with_reducible refine and_keep ?_ fun hk => ?_); omega)
        | (simp -dsimp -implicitDefEqProofs [*]))
      · have hn : ¬ (M.length : Int) ≤ 4096 := by omega
        rw [if_neg hn]
        exact .nil2 (.drop (st' := st) (by repeat' (first | exact StLe.refl _ | (refine StLe_cons (by simp [*]; done) ?_) | (refine StLe_fresh (by simp [*]; done) ?_))) ⟨rfl, rfl⟩)
      · refine xcall_post (PCalls.le (st := (m, EM.o M) :: st) (by repeat' (first | exact StLe.refl _ | (refine StLe_cons (by simp [*]; done) ?_) | (refine StLe_fresh (by simp [*]; done) ?_))) (collect_spec (H.maps_Values__appealsevents_int_apiEvent_1).enters (values1_gives M m st hm) (by simp [EM.list]; omega))) fun e s hq => ?_
        obtain ⟨ys, hp, rfl, rfl⟩ := hq
        have hyl : ys.length ≤ 8192 := by rw [hp.length_eq]; simp [EM.list]; omega
        have hsrt := srt_perm_eq hnos hp
        clear hnos hp
        have hn : ¬ (4096 : Int) < M.length := by omega
        repeat' (first
          | (with_reducible refine Fresh.intro fun b hb => ?_) <;> (try simp -dsimp -implicitDefEqProofs [*] at hb)
          | (with_reducible refine Rets.xcall (byE_spec _ _ hyl _) ?_)
          | (with_reducible refine Rets.xsoft (byE_spec _ _ hyl _) ?_)
          | (with_reducible refine xlateCall_of (fun _ => byE_spec _ _ hyl _) ?_)
          | (with_reducible refine Lit.imm ?_)
          | ((with_reducible refine Grow.intro ?_ fun b cap hb hc1 hc2 => ?_); omega) <;> (try simp -dsimp -implicitDefEqProofs [*] at hb)
          | (with_reducible refine DrawLate.intro [] ?_)
          | (with_reducible refine Cls_and ?_ ?_)
          | (with_reducible exact Cls.self _ _)
          | (with_reducible refine Cls_same ?_)
          | (with_reducible refine Cls_in ?_ ?_)
          | (with_reducible refine Cls_fresh ?_ ?_)
          | (with_reducible refine And.intro (fun h => ?_) (fun h => ?_)) <;> (try (exfalso; omega))
          | (with_reducible refine And.intro (fun h => ?_) ?_) <;> (try (exfalso; omega))
          | ((with_reducible refine and_keep ?_ fun hk => ?_); omega)
          | (simp -dsimp -implicitDefEqProofs [*]))
        exact .same ⟨by simp [hn], rfl⟩
    · have hN : applyN l d t = standN d t := by simp_all [applyN]
      have hL : applyL l d t = [] := by simp [applyL, hN, hs]
      repeat' (first
        | (with_reducible refine Fresh.intro fun b hb => ?_) <;> (try simp -dsimp -implicitDefEqProofs [*] at hb)
        | (with_reducible refine Rets.xcall (check_spec _ _ _) ?_)
        | (with_reducible refine Rets.xsoft (check_spec _ _ _) ?_)
        | (with_reducible refine xlateCall_of (fun _ => check_spec _ _ _) ?_)
        | (with_reducible refine Rets.xcall (standing_spec _ _ _ hl _) ?_)
        | (with_reducible refine Rets.xsoft (standing_spec _ _ _ hl _) ?_)
        | (with_reducible refine xlateCall_of (fun _ => standing_spec _ _ _ hl _) ?_)
        | (with_reducible refine Lit.imm ?_)
        | ((with_reducible refine Grow.intro ?_ fun b cap hb hc1 hc2 => ?_); omega) <;> (try simp -dsimp -implicitDefEqProofs [*] at hb)
        | (with_reducible refine RetView.nil2 ?_)
        | (with_reducible refine RetView.nil1 ?_)
        | (with_reducible refine RetView.loose2 (t := true) ?_)
        | (with_reducible refine RetView.loose1 (t := true) ?_)
        | (with_reducible refine RetView.fz 9 ?_ ?_)
        | (with_reducible refine RetView.same ?_)
        | (with_reducible refine DrawLate.intro [] ?_)
        | (with_reducible refine Cls_and ?_ ?_)
        | (with_reducible exact Cls.self _ _)
        | (with_reducible refine Cls_same ?_)
        | (with_reducible refine Cls_in ?_ ?_)
        | (with_reducible refine Cls_fresh ?_ ?_)
        | (with_reducible refine And.intro (fun h => ?_) (fun h => ?_)) <;> (try (exfalso; omega))
        | (with_reducible refine And.intro (fun h => ?_) ?_) <;> (try (exfalso; omega))
        | ((with_reducible refine and_keep ?_ fun hk => ?_); omega)
        | (simp -dsimp -implicitDefEqProofs [*]))
  · have hN : applyN l d t = checkE l := by simp_all [applyN]
    have hL : applyL l d t = [] := by simp [applyL, hN, hc]
    repeat' (first
      | (with_reducible refine Fresh.intro fun b hb => ?_) <;> (try simp -dsimp -implicitDefEqProofs [*] at hb)
      | (with_reducible refine Rets.xcall (check_spec _ _ _) ?_)
      | (with_reducible refine Rets.xsoft (check_spec _ _ _) ?_)
      | (with_reducible refine xlateCall_of (fun _ => check_spec _ _ _) ?_)
      | (with_reducible refine Lit.imm ?_)
      | ((with_reducible refine Grow.intro ?_ fun b cap hb hc1 hc2 => ?_); omega) <;> (try simp -dsimp -implicitDefEqProofs [*] at hb)
      | (with_reducible refine RetView.nil2 ?_)
      | (with_reducible refine RetView.nil1 ?_)
      | (with_reducible refine RetView.loose2 (t := true) ?_)
      | (with_reducible refine RetView.loose1 (t := true) ?_)
      | (with_reducible refine RetView.fz 9 ?_ ?_)
      | (with_reducible refine RetView.same ?_)
      | (with_reducible refine DrawLate.intro [] ?_)
      | (with_reducible refine Cls_and ?_ ?_)
      | (with_reducible exact Cls.self _ _)
      | (with_reducible refine Cls_same ?_)
      | (with_reducible refine Cls_in ?_ ?_)
      | (with_reducible refine Cls_fresh ?_ ?_)
      | (with_reducible refine And.intro (fun h => ?_) (fun h => ?_)) <;> (try (exfalso; omega))
      | (with_reducible refine And.intro (fun h => ?_) ?_) <;> (try (exfalso; omega))
      | ((with_reducible refine and_keep ?_ fun hk => ?_); omega)
      | (simp -dsimp -implicitDefEqProofs [*]))
end Go.Proofs.Ythkjdppifnmakaa
