/- The reference's Standing. -/
import Derived.Test.YthkjdppifnmakaaS51Q
namespace Go.Proofs.Ythkjdppifnmakaa
open Go.Pv
set_option maxRecDepth 100000
set_option maxHeartbeats 4000000
open SortDecision (key)
abbrev at_ (n : Int) (d : Decision) : Bool := decide (d.known = n)
/-- nx is the next time behind 'last' at which one of these became known. -/
def NextT (l : List Decision) (last nx : Int) : Prop := (∀ d ∈ l, last < d.known → nx ≤ d.known) ∧ (nx = 2097152 ∨ last < nx ∧ ∃ d ∈ l, d.known = nx) ∧ nx ≤ 2097152 ∧ last < nx
theorem srtd_filter {l : List Decision} (h : Srtd key l) (f : Decision → Bool) : Srtd key (l.filter f) := List.Pairwise.filter f h
theorem stand_step {l : List Decision} {last nx : Int} (h : NextT l last nx) : (srt key l).filter (early last) ++ l.filter (at_ nx) = (srt key l).filter (early nx) := by
  obtain ⟨h1, h2, h3, h4⟩ := h
  refine Stb.uniq (key := key) ?_ (srtd_filter (srt_srtd l) _) fun v => ?_
  · refine Srtd.append (srtd_filter (srt_srtd l) _) ?_ fun a ha b hb => ?_
    · refine List.pairwise_iff_forall_sublist.2 fun {a b} hab => ?_
      have ha := hab.subset (List.mem_cons_self ..)
      have hb := hab.subset (List.mem_cons_of_mem _ (List.mem_cons_self ..))
      simp [at_] at ha hb
      show a.known ≤ b.known
      omega
    · simp [at_] at ha hb
      show a.known ≤ b.known
      omega
  · rw [List.filter_append, List.filter_filter, List.filter_filter, List.filter_filter]
    have hst := srt_stb (key := key) l v
    by_cases hv : v ≤ last
    · have e1 : (srt key l).filter (fun a => decide (key a = v) && early last a) = (srt key l).filter (fun a => decide (key a = v)) := List.filter_congr fun a _ => by
        by_cases ha : key a = v
        · have : a.known = v := ha
          simp [early, this, hv]
        · simp [ha]
      have e2 : l.filter (fun a => decide (key a = v) && at_ nx a) = [] := by
        rw [List.filter_eq_nil_iff]
        intro a _ ha
        simp [at_] at ha
        have : a.known = v := ha.1
        omega
      have e3 : (srt key l).filter (fun a => decide (key a = v) && early nx a) = (srt key l).filter (fun a => decide (key a = v)) := List.filter_congr fun a _ => by
        by_cases ha : key a = v
        · have : a.known = v := ha
          simp [early, this]; omega
        · simp [ha]
      rw [e1, e2, e3, List.append_nil]
    · have e1 : (srt key l).filter (fun a => decide (key a = v) && early last a) = [] := by
        rw [List.filter_eq_nil_iff]
        intro a _ ha
        simp [early] at ha
        have : a.known = v := ha.1
        omega
      rw [e1, List.nil_append]
      by_cases hx : v = nx
      · have e2 : l.filter (fun a => decide (key a = v) && at_ nx a) = l.filter (fun a => decide (key a = v)) := List.filter_congr fun a _ => by
          by_cases ha : key a = v
          · have : a.known = v := ha
            simp [at_, this, hx]
          · simp [ha]
        have e3 : (srt key l).filter (fun a => decide (key a = v) && early nx a) = (srt key l).filter (fun a => decide (key a = v)) := List.filter_congr fun a _ => by
          by_cases ha : key a = v
          · have : a.known = v := ha
            simp [early, this]; omega
          · simp [ha]
        rw [e2, e3, hst]
      · have e2 : l.filter (fun a => decide (key a = v) && at_ nx a) = [] := by
          rw [List.filter_eq_nil_iff]
          intro a _ ha
          simp [at_] at ha
          have : a.known = v := ha.1
          omega
        have e3 : (srt key l).filter (fun a => decide (key a = v) && early nx a) = [] := by
          rw [List.filter_eq_nil_iff]
          intro a hal ha
          simp [early] at ha
          have e : a.known = v := ha.1
          have := h1 a (mem_srt.1 hal) (by omega)
          omega
        rw [e2, e3]
theorem stand_end {l : List Decision} {last nx t : Int} (h : NextT l last nx) (h1 : last ≤ t) (h2 : t < nx) : (srt key l).filter (early last) = (srt key l).filter (early t) := List.filter_congr fun a ha => by
  have := h.1 a (mem_srt.1 ha)
  by_cases hk : a.known ≤ last
  · have : a.known ≤ t := by omega
    simp [early, hk, this]
  · have := this (by omega)
    have h3 : ¬ a.known ≤ t := by omega
    simp [early, hk, h3]
theorem NextT.step {l : List Decision} {last nx : Int} {i : Nat} (h : NextT (l.take i) last nx) (hi : i < l.length) (hk : l[i].known < 2097152) : (last < l[i].known → NextT (l.take (i + 1)) last (min nx l[i].known)) ∧ (l[i].known ≤ last → NextT (l.take (i + 1)) last nx) := by
  obtain ⟨h1, h2, h3, h4⟩ := h
  rw [List.take_succ_eq_append_getElem hi]
  constructor
  · intro hl
    refine ⟨fun d hd hdl => ?_, ?_, by omega, by omega⟩
    · rcases List.mem_append.1 hd with hd | hd
      · have := h1 d hd hdl; omega
      · simp at hd; subst hd; omega
    · by_cases hm : nx ≤ l[i].known
      · rw [Int.min_eq_left hm]
        rcases h2 with h2 | ⟨h2, d, hd, he⟩
        · omega
        · exact .inr ⟨h2, d, List.mem_append_left _ hd, he⟩
      · rw [Int.min_eq_right (by omega)]
        exact .inr ⟨hl, l[i], List.mem_append_right _ (List.mem_singleton.2 rfl), rfl⟩
  · intro hl
    refine ⟨fun d hd hdl => ?_, ?_, h3, h4⟩
    · rcases List.mem_append.1 hd with hd | hd
      · exact h1 d hd hdl
      · simp at hd; subst hd; omega
    · rcases h2 with h2 | ⟨h2, d, hd, he⟩
      · exact .inl h2
      · exact .inr ⟨h2, d, List.mem_append_left _ hd, he⟩
theorem refStanding_spec (tt : Bool) (l : List Decision) (t : Int) (st : Store) : Rets P F.podiumref51_Standing [Decision.lst tt l, .int t] st (.tuple [Decision.lst false (standL l t), .int (standN l t)]) := by
  refine H.podiumref51_Standing.view hmix rfl rfl ?_
  by_cases hc : checkD l = 0
  · obtain ⟨hl1, hok⟩ := checkD_zero.1 hc
    by_cases ht : t < 0
    · have hN : standN l t = 1 := by simp_all [standN]
      have hL : standL l t = [] := by simp [standL, hN]
      clear hok
      repeat' (first
        | (with_reducible refine Fresh.intro fun b hb => ?_) <;> (try simp -dsimp -implicitDefEqProofs [*] at hb)
        | (with_reducible refine Rets.xcall (refCheckD_spec _ _ _) ?_)
        | (with_reducible refine Rets.xsoft (refCheckD_spec _ _ _) ?_)
        | (with_reducible refine xlateCall_of (fun _ => refCheckD_spec _ _ _) ?_)
        | (with_reducible refine Lit.imm ?_)
        | ((with_reducible refine Grow.intro ?_ fun b cap hb hc1 hc2 => ?_); omega) <;> (try simp -dsimp -implicitDefEqProofs [*] at hb)
        | (with_reducible refine RetView.nil2 ?_)
        | (with_reducible refine RetView.nil1 ?_)
        | (with_reducible refine RetView.loose2 (t := true) ?_)
        | (with_reducible refine RetView.loose1 (t := true) ?_)
        | (with_reducible refine RetView.fz 9 ?_ ?_)
        | (with_reducible refine RetView.same ?_)
        | (with_reducible refine DrawLate.intro [] ?_)
        | (with_reducible refine Cls_and ?_ ?_)
        | (with_reducible exact Cls.self _ _)
        | (with_reducible refine Cls_same ?_)
        | (with_reducible refine Cls_in ?_ ?_)
        | (with_reducible refine Cls_fresh ?_ ?_)
        | (with_reducible refine And.intro (fun h => ?_) (fun h => ?_)) <;> (try (exfalso; omega))
        | (with_reducible refine And.intro (fun h => ?_) ?_) <;> (try (exfalso; omega))
        | ((with_reducible refine and_keep ?_ fun hk => ?_); omega)
        | (simp -dsimp -implicitDefEqProofs [*]))
    by_cases ht2 : 2097152 ≤ t
    · have hN : standN l t = 1 := by simp_all [standN]
      have hL : standL l t = [] := by simp [standL, hN]
      clear hok
      repeat' (first
        | (with_reducible refine Fresh.intro fun b hb => ?_) <;> (try simp -dsimp -implicitDefEqProofs [*] at hb)
        | (with_reducible refine Rets.xcall (refCheckD_spec _ _ _) ?_)
        | (with_reducible refine Rets.xsoft (refCheckD_spec _ _ _) ?_)
        | (with_reducible refine xlateCall_of (fun _ => refCheckD_spec _ _ _) ?_)
        | (with_reducible refine Lit.imm ?_)
        | ((with_reducible refine Grow.intro ?_ fun b cap hb hc1 hc2 => ?_); omega) <;> (try simp -dsimp -implicitDefEqProofs [*] at hb)
        | (with_reducible refine RetView.nil2 ?_)
        | (with_reducible refine RetView.nil1 ?_)
        | (with_reducible refine RetView.loose2 (t := true) ?_)
        | (with_reducible refine RetView.loose1 (t := true) ?_)
        | (with_reducible refine RetView.fz 9 ?_ ?_)
        | (with_reducible refine RetView.same ?_)
        | (with_reducible refine DrawLate.intro [] ?_)
        | (with_reducible refine Cls_and ?_ ?_)
        | (with_reducible exact Cls.self _ _)
        | (with_reducible refine Cls_same ?_)
        | (with_reducible refine Cls_in ?_ ?_)
        | (with_reducible refine Cls_fresh ?_ ?_)
        | (with_reducible refine And.intro (fun h => ?_) (fun h => ?_)) <;> (try (exfalso; omega))
        | (with_reducible refine And.intro (fun h => ?_) ?_) <;> (try (exfalso; omega))
        | ((with_reducible refine and_keep ?_ fun hk => ?_); omega)
        | (simp -dsimp -implicitDefEqProofs [*]))
    have hN : standN l t = 0 := by simp_all [standN]
    have hL : standL l t = (srt key l).filter (early t) := by simp [standL, hN]
    rw [hN, hL]
    have hkn : ∀ d ∈ l, 0 ≤ d.known ∧ d.known < 2097152 := fun d hd => by
      have := hok.1 d hd
      unfold validD btw at this
      simp at this
      omega
    clear hok hN hL
    repeat' (first
      | (with_reducible refine Fresh.intro fun b hb => ?_) <;> (try simp -dsimp -implicitDefEqProofs [*] at hb)
      | (with_reducible refine Rets.xcall (refCheckD_spec _ _ _) ?_)
      | (with_reducible refine Rets.xsoft (refCheckD_spec _ _ _) ?_)
      | (with_reducible refine xlateCall_of (fun _ => refCheckD_spec _ _ _) ?_)
      | (with_reducible refine Lit.imm ?_)
      | ((with_reducible refine Grow.intro ?_ fun b cap hb hc1 hc2 => ?_); omega) <;> (try simp -dsimp -implicitDefEqProofs [*] at hb)
      | (with_reducible refine DrawLate.intro [] ?_)
      | (with_reducible refine Cls_and ?_ ?_)
      | (with_reducible exact Cls.self _ _)
      | (with_reducible refine Cls_same ?_)
      | (with_reducible refine Cls_in ?_ ?_)
      | (with_reducible refine Cls_fresh ?_ ?_)
      | (with_reducible refine And.intro (fun h => ?_) (fun h => ?_)) <;> (try (exfalso; omega))
      | (with_reducible refine And.intro (fun h => ?_) ?_) <;> (try (exfalso; omega))
      | ((with_reducible refine and_keep ?_ fun hk => ?_); omega)
      | (simp -dsimp -implicitDefEqProofs [*]))
    refine xloop_for (fun y : Int × Option (Acc Decision) => [(0, Decision.lst tt l), (1, .int t), (7, accP y.2), (8, .int y.1)]) (fun y => accS T.apiDecision st y.2)
      (fun y => -1 ≤ y.1 ∧ y.1 ≤ t ∧ accOk Decision.row 14 st y.2 ∧ accL y.2 = (srt key l).filter (early y.1)) (fun y => (2097152 - y.1).toNat) (-1, none) ⟨by simp, by simp only; omega, trivial, ?_⟩ (by simp) (by simp) ?_
    · symm
      simp only [accL_none, List.filter_eq_nil_iff]
      intro a ha hk
      have := hkn a (mem_srt.1 ha)
      simp [early] at hk
      omega
    rintro ⟨last, a⟩ ⟨hl2, hl3, ha, hF⟩
    simp only at hl2 hl3 ha hF
    have hF0 : Hid (accL a = (srt key l).filter (early last)) := ⟨hF⟩
    clear hF
    by_cases hle : l.length = 0
    · have : l = [] := List.length_eq_zero_iff.1 hle
      subst this
      have hF1 : accL a = [] := hF0.out
      repeat' (first
        | (with_reducible refine Fresh.intro fun b hb => ?_) <;> (try simp -dsimp -implicitDefEqProofs [*] at hb)
        | (with_reducible refine Lit.imm ?_)
        | ((with_reducible refine Grow.intro ?_ fun b cap hb hc1 hc2 => ?_); omega) <;> (try simp -dsimp -implicitDefEqProofs [*] at hb)
        | (with_reducible refine DrawLate.intro [] ?_)
        | (with_reducible refine Cls_and ?_ ?_)
        | (with_reducible exact Cls.self _ _)
        | (with_reducible refine Cls_same ?_)
        | (with_reducible refine Cls_in ?_ ?_)
        | (with_reducible refine Cls_fresh ?_ ?_)
        | (with_reducible refine And.intro (fun h => ?_) (fun h => ?_)) <;> (try (exfalso; omega))
        | (with_reducible refine And.intro (fun h => ?_) ?_) <;> (try (exfalso; omega))
        | ((with_reducible refine and_keep ?_ fun hk => ?_); omega)
        | (simp -dsimp -implicitDefEqProofs [*]))
      exact RetView.accP2 rfl ha (.same ⟨by rw [hF1]; rfl, rfl⟩)
    have hle2 : 0 < l.length := by omega
    repeat' (first
      | (with_reducible refine Fresh.intro fun b hb => ?_) <;> (try simp -dsimp -implicitDefEqProofs [*] at hb)
      | (with_reducible refine Lit.imm ?_)
      | ((with_reducible refine Grow.intro ?_ fun b cap hb hc1 hc2 => ?_); omega) <;> (try simp -dsimp -implicitDefEqProofs [*] at hb)
      | (with_reducible refine DrawLate.intro [] ?_)
      | (with_reducible refine Cls_and ?_ ?_)
      | (with_reducible exact Cls.self _ _)
      | (with_reducible refine Cls_same ?_)
      | (with_reducible refine Cls_in ?_ ?_)
      | (with_reducible refine Cls_fresh ?_ ?_)
      | (with_reducible refine And.intro (fun h => ?_) (fun h => ?_)) <;> (try (exfalso; omega))
      | (with_reducible refine And.intro (fun h => ?_) ?_) <;> (try (exfalso; omega))
      | ((with_reducible refine and_keep ?_ fun hk => ?_); omega)
      | (simp -dsimp -implicitDefEqProofs [*]))
    refine xloop_for (fun y : Nat × Int => [(0, Decision.lst tt l), (1, .int t), (7, accP a), (8, .int last), (9, .int y.2), (10, .int (y.1 : Nat))]) (fun _ => accS T.apiDecision st a)
      (fun y => y.1 ≤ l.length ∧ NextT (l.take y.1) last y.2) (fun y => l.length - y.1) (0, 2097152) ⟨Nat.zero_le _, by simp, .inl rfl, by simp only; omega, by simp only; omega⟩ (by simp) (by simp) ?_
    rintro ⟨i, nx⟩ ⟨hi, hx⟩
    simp only at hi hx
    have hw := wrap_succ (n := i) (by omega)
    by_cases hil : i < l.length
    · obtain ⟨s1, s2⟩ := hx.step hil (hkn _ (List.getElem_mem hil)).2
      clear hx hkn
      repeat' (first
        | (with_reducible refine Fresh.intro fun b hb => ?_) <;> (try simp -dsimp -implicitDefEqProofs [*] at hb)
        | (with_reducible refine Lit.imm ?_)
        | ((with_reducible refine Grow.intro ?_ fun b cap hb hc1 hc2 => ?_); omega) <;> (try simp -dsimp -implicitDefEqProofs [*] at hb)
        | (with_reducible refine DrawLate.intro [] ?_)
        | (with_reducible refine Cls_and ?_ ?_)
        | (with_reducible exact Cls.self _ _)
        | (with_reducible refine Cls_same ?_)
        | (with_reducible refine Cls_in ?_ ?_)
        | (with_reducible refine Cls_fresh ?_ ?_)
        | (with_reducible refine And.intro (fun h => ?_) (fun h => ?_)) <;> (try (exfalso; omega))
        | (with_reducible refine And.intro (fun h => ?_) ?_) <;> (try (exfalso; omega))
        | ((with_reducible refine and_keep ?_ fun hk => ?_); omega)
        | (simp -dsimp -implicitDefEqProofs [*]))
      · have e : (if l[i].known < nx then l[i].known else nx) = min nx l[i].known := by split <;> omega
        exact Next.intro (i + 1, if l[i].known < nx then l[i].known else nx) ⟨by simp only; omega, by rw [e]; exact s1 h⟩ (by simp only; omega) (by simp) (by repeat' (first | exact StLe.refl _ | (refine StLe_cons (by simp [*]; done) ?_) | (refine StLe_fresh (by simp [*]; done) ?_)))
      · exact Next.intro (i + 1, nx) ⟨by simp only; omega, s2 h⟩ (by simp only; omega) (by simp) (by repeat' (first | exact StLe.refl _ | (refine StLe_cons (by simp [*]; done) ?_) | (refine StLe_fresh (by simp [*]; done) ?_)))
    have hx' : NextT l last nx := by rwa [List.take_of_length_le (by omega)] at hx
    clear hx
    by_cases hnt : t < nx
    · have hF1 : accL a = (srt key l).filter (early t) := by rw [hF0.out]; exact stand_end hx' hl3 hnt
      have hF2 : Hid (accL a = (srt key l).filter (early t)) := ⟨hF1⟩
      clear hF1
      repeat' (first
        | (with_reducible refine Fresh.intro fun b hb => ?_) <;> (try simp -dsimp -implicitDefEqProofs [*] at hb)
        | (with_reducible refine Lit.imm ?_)
        | ((with_reducible refine Grow.intro ?_ fun b cap hb hc1 hc2 => ?_); omega) <;> (try simp -dsimp -implicitDefEqProofs [*] at hb)
        | (with_reducible refine DrawLate.intro [] ?_)
        | (with_reducible refine Cls_and ?_ ?_)
        | (with_reducible exact Cls.self _ _)
        | (with_reducible refine Cls_same ?_)
        | (with_reducible refine Cls_in ?_ ?_)
        | (with_reducible refine Cls_fresh ?_ ?_)
        | (with_reducible refine And.intro (fun h => ?_) (fun h => ?_)) <;> (try (exfalso; omega))
        | (with_reducible refine And.intro (fun h => ?_) ?_) <;> (try (exfalso; omega))
        | ((with_reducible refine and_keep ?_ fun hk => ?_); omega)
        | (simp -dsimp -implicitDefEqProofs [*]))
      exact RetView.accP2 rfl ha (.same ⟨by rw [hF2.out], rfl⟩)
    have hnx2 : nx ≤ t := by omega
    repeat' (first
      | (with_reducible refine Fresh.intro fun b hb => ?_) <;> (try simp -dsimp -implicitDefEqProofs [*] at hb)
      | (with_reducible refine Lit.imm ?_)
      | ((with_reducible refine Grow.intro ?_ fun b cap hb hc1 hc2 => ?_); omega) <;> (try simp -dsimp -implicitDefEqProofs [*] at hb)
      | (with_reducible refine DrawLate.intro [] ?_)
      | (with_reducible refine Cls_and ?_ ?_)
      | (with_reducible exact Cls.self _ _)
      | (with_reducible refine Cls_same ?_)
      | (with_reducible refine Cls_in ?_ ?_)
      | (with_reducible refine Cls_fresh ?_ ?_)
      | (with_reducible refine And.intro (fun h => ?_) (fun h => ?_)) <;> (try (exfalso; omega))
      | (with_reducible refine And.intro (fun h => ?_) ?_) <;> (try (exfalso; omega))
      | ((with_reducible refine and_keep ?_ fun hk => ?_); omega)
      | (simp -dsimp -implicitDefEqProofs [*]))
    refine xloop_for (fun y : Nat × Option (Acc Decision) => [(0, Decision.lst tt l), (1, .int t), (7, accP y.2), (9, .int nx), (11, .int (y.1 : Nat))]) (fun y => accS T.apiDecision st y.2)
      (fun y => y.1 ≤ l.length ∧ accOk Decision.row 14 st y.2 ∧ accL y.2 = (srt key l).filter (early last) ++ (l.take y.1).filter (at_ nx)) (fun y => l.length - y.1) (0, a) ⟨Nat.zero_le _, ha, by simp [hF0.out]⟩ (by simp) (by simp) ?_
    clear ha hF0
    rintro ⟨j, a⟩ ⟨hj, ha, hF⟩
    simp only at hj ha hF
    have hwj := wrap_succ (n := j) (by omega)
    by_cases hjl : j < l.length
    · have hfs := f_step (f := at_ nx) hjl
      have hlen : (accL a).length ≤ l.length + j := by
        rw [hF, List.length_append]
        have h1 := List.length_filter_le (early last) (srt key l)
        have h2 := filter_len (f := at_ nx) (l := l) (i := j)
        simp at h1
        omega
      by_cases hs : l[j].known = nx
      · have h2 := hfs.1 (by simpa using hs)
        have h3 : Hid (∀ a' : Option (Acc Decision), accL a' = accL a ++ [l[j]] → accL a' = (srt key l).filter (early last) ++ (l.take (j + 1)).filter (at_ nx)) := ⟨fun a' h => by rw [h, h2, hF, List.append_assoc]⟩
        clear hfs hF h2 hkn
        repeat' (first
          | (with_reducible refine Fresh.intro fun b hb => ?_) <;> (try simp -dsimp -implicitDefEqProofs [*] at hb)
          | (with_reducible refine Lit.imm ?_)
          | ((with_reducible refine Grow.intro ?_ fun b cap hb hc1 hc2 => ?_); omega) <;> (try simp -dsimp -implicitDefEqProofs [*] at hb)
          | (with_reducible refine DrawLate.intro [] ?_)
          | (with_reducible refine Cls_and ?_ ?_)
          | (with_reducible exact Cls.self _ _)
          | (with_reducible refine Cls_same ?_)
          | (with_reducible refine Cls_in ?_ ?_)
          | (with_reducible refine Cls_fresh ?_ ?_)
          | (with_reducible refine And.intro (fun h => ?_) (fun h => ?_)) <;> (try (exfalso; omega))
          | (with_reducible refine And.intro (fun h => ?_) ?_) <;> (try (exfalso; omega))
          | ((with_reducible refine and_keep ?_ fun hk => ?_); omega)
          | (simp -dsimp -implicitDefEqProofs [*]))
        refine xappend_accP Decision.row_len Decision.row_append a ha [l[j]] (by simp) rfl (by omega) (by omega) fun a' ha' hl' => ?_
        have h4 := h3.out a' hl'
        have h5 : Hid (accL a' = (srt key l).filter (early last) ++ (l.take (j + 1)).filter (at_ nx)) := ⟨h4⟩
        clear h3 h4 hl'
        repeat' (first
          | (with_reducible refine Fresh.intro fun b hb => ?_) <;> (try simp -dsimp -implicitDefEqProofs [*] at hb)
          | (with_reducible refine Lit.imm ?_)
          | ((with_reducible refine Grow.intro ?_ fun b cap hb hc1 hc2 => ?_); omega) <;> (try simp -dsimp -implicitDefEqProofs [*] at hb)
          | (with_reducible refine DrawLate.intro [] ?_)
          | (with_reducible refine Cls_and ?_ ?_)
          | (with_reducible exact Cls.self _ _)
          | (with_reducible refine Cls_same ?_)
          | (with_reducible refine Cls_in ?_ ?_)
          | (with_reducible refine Cls_fresh ?_ ?_)
          | (with_reducible refine And.intro (fun h => ?_) (fun h => ?_)) <;> (try (exfalso; omega))
          | (with_reducible refine And.intro (fun h => ?_) ?_) <;> (try (exfalso; omega))
          | ((with_reducible refine and_keep ?_ fun hk => ?_); omega)
          | (simp -dsimp -implicitDefEqProofs [*]))
        exact Next.intro (j + 1, a') ⟨by simp only; omega, ha', h5.out⟩ (by simp only; omega) (by simp) (by repeat' (first | exact StLe.refl _ | (refine StLe_cons (by simp [*]; done) ?_) | (refine StLe_fresh (by simp [*]; done) ?_)))
      · have h5 : Hid (accL a = (srt key l).filter (early last) ++ (l.take (j + 1)).filter (at_ nx)) := ⟨by rw [hfs.2 (by simpa using hs)]; exact hF⟩
        clear hfs hF hkn
        repeat' (first
          | (with_reducible refine Fresh.intro fun b hb => ?_) <;> (try simp -dsimp -implicitDefEqProofs [*] at hb)
          | (with_reducible refine Lit.imm ?_)
          | ((with_reducible refine Grow.intro ?_ fun b cap hb hc1 hc2 => ?_); omega) <;> (try simp -dsimp -implicitDefEqProofs [*] at hb)
          | (with_reducible refine DrawLate.intro [] ?_)
          | (with_reducible refine Cls_and ?_ ?_)
          | (with_reducible exact Cls.self _ _)
          | (with_reducible refine Cls_same ?_)
          | (with_reducible refine Cls_in ?_ ?_)
          | (with_reducible refine Cls_fresh ?_ ?_)
          | (with_reducible refine And.intro (fun h => ?_) (fun h => ?_)) <;> (try (exfalso; omega))
          | (with_reducible refine And.intro (fun h => ?_) ?_) <;> (try (exfalso; omega))
          | ((with_reducible refine and_keep ?_ fun hk => ?_); omega)
          | (simp -dsimp -implicitDefEqProofs [*]))
        exact Next.intro (j + 1, a) ⟨by simp only; omega, ha, h5.out⟩ (by simp only; omega) (by simp) (by repeat' (first | exact StLe.refl _ | (refine StLe_cons (by simp [*]; done) ?_) | (refine StLe_fresh (by simp [*]; done) ?_)))
    · rw [List.take_of_length_le (by omega), stand_step hx'] at hF
      have h5 : Hid (accL a = (srt key l).filter (early nx)) := ⟨hF⟩
      have h6 := hx'.2.2.2
      clear hF
      repeat' (first
        | (with_reducible refine Fresh.intro fun b hb => ?_) <;> (try simp -dsimp -implicitDefEqProofs [*] at hb)
        | (with_reducible refine Lit.imm ?_)
        | ((with_reducible refine Grow.intro ?_ fun b cap hb hc1 hc2 => ?_); omega) <;> (try simp -dsimp -implicitDefEqProofs [*] at hb)
        | (with_reducible refine DrawLate.intro [] ?_)
        | (with_reducible refine Cls_and ?_ ?_)
        | (with_reducible exact Cls.self _ _)
        | (with_reducible refine Cls_same ?_)
        | (with_reducible refine Cls_in ?_ ?_)
        | (with_reducible refine Cls_fresh ?_ ?_)
        | (with_reducible refine And.intro (fun h => ?_) (fun h => ?_)) <;> (try (exfalso; omega))
        | (with_reducible refine And.intro (fun h => ?_) ?_) <;> (try (exfalso; omega))
        | ((with_reducible refine and_keep ?_ fun hk => ?_); omega)
        | (simp -dsimp -implicitDefEqProofs [*]))
      exact Next.intro (nx, a) ⟨by simp only; omega, hnx2, ha, h5.out⟩ (by simp only; omega) (by simp) (by repeat' (first | exact StLe.refl _ | (refine StLe_cons (by simp [*]; done) ?_) | (refine StLe_fresh (by simp [*]; done) ?_)))
  · have hN : standN l t = checkD l := by simp_all [standN]
    have hL : standL l t = [] := by simp [standL, hN, hc]
    repeat' (first
      | (with_reducible refine Fresh.intro fun b hb => ?_) <;> (try simp -dsimp -implicitDefEqProofs [*] at hb)
      | (with_reducible refine Rets.xcall (refCheckD_spec _ _ _) ?_)
      | (with_reducible refine Rets.xsoft (refCheckD_spec _ _ _) ?_)
      | (with_reducible refine xlateCall_of (fun _ => refCheckD_spec _ _ _) ?_)
      | (with_reducible refine Lit.imm ?_)
      | ((with_reducible refine Grow.intro ?_ fun b cap hb hc1 hc2 => ?_); omega) <;> (try simp -dsimp -implicitDefEqProofs [*] at hb)
      | (with_reducible refine RetView.nil2 ?_)
      | (with_reducible refine RetView.nil1 ?_)
      | (with_reducible refine RetView.loose2 (t := true) ?_)
      | (with_reducible refine RetView.loose1 (t := true) ?_)
      | (with_reducible refine RetView.fz 9 ?_ ?_)
      | (with_reducible refine RetView.same ?_)
      | (with_reducible refine DrawLate.intro [] ?_)
      | (with_reducible refine Cls_and ?_ ?_)
      | (with_reducible exact Cls.self _ _)
      | (with_reducible refine Cls_same ?_)
      | (with_reducible refine Cls_in ?_ ?_)
      | (with_reducible refine Cls_fresh ?_ ?_)
      | (with_reducible refine And.intro (fun h => ?_) (fun h => ?_)) <;> (try (exfalso; omega))
      | (with_reducible refine And.intro (fun h => ?_) ?_) <;> (try (exfalso; omega))
      | ((with_reducible refine and_keep ?_ fun hk => ?_); omega)
      | (simp -dsimp -implicitDefEqProofs [*]))
end Go.Proofs.Ythkjdppifnmakaa
