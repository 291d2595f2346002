/- Lists of numbers that are in bounds. -/
import Derived.Test.YtmgpkcpalpejcaaDoorS34T
namespace Go.Proofs.YtmgpkcpalpejcaaDoor
open Go.Pv Go.Pv.Sha
set_option maxRecDepth 100000
set_option maxHeartbeats 4000000
def inAll (l : List Int) (most : Int) : Bool := decide (1 ≤ l.length) && decide (l.length ≤ 64) && l.all (fun n => wi n most)
theorem refPlace_spec (r e j : Int) (st : Store) : Rets P F.podiumref34_place [.int r, .int e, .int j] st (.bool (placeOk r e j)) := by
  refine H.podiumref34_place.pure hmix rfl rfl ?_
  repeat' (first 
   | (with_reducible refine And.intro (fun h => ?_) (fun h => ?_)) <;> (try (exfalso; omega))
   | (simp -dsimp -implicitDefEqProofs [placeOk, wi, *]))
  all_goals first
    | (intros; omega)
    | (have h7 : r ≤ 7 := by omega
       have h8 : e ≤ 4095 := by omega
       rw [decide_eq_true h7, decide_eq_true h8, Bool.true_and, Bool.true_and]
       exact decide_eq_decide.2 (by omega))
theorem refWithin_spec (t : Bool) (l : List Int) (hl : l.length ≤ 9223372036854775807) (most : Int) (st : Store) : Rets P F.podiumref34_within [intLst t l, .int most] st (.bool (inAll l most)) := by
  refine H.podiumref34_within.pure hmix rfl rfl ?_
  repeat' (simp -dsimp -implicitDefEqProofs [*])
  refine xloop_for (fun i : Nat => [(0, intLst t l), (1, .int most), (5, .int (i : Nat))]) (fun _ => st) (fun i => i ≤ l.length ∧ ∀ n ∈ l.take i, wi n most = true) (fun i => l.length - i) 0 ⟨by omega, by simp⟩ (by simp) (.refl _) ?_
  rintro i ⟨hi, ha⟩
  have ka : Hid (∀ n ∈ l.take i, wi n most = true) := ⟨ha⟩
  clear ha
  by_cases hil : i < l.length
  · have hg := intRow_get l i hil
    have hwi := wrap_succ (n := i) (by omega)
    have kT : Hid (l.take (i + 1) = l.take i ++ [l[i]]) := ⟨List.take_succ_eq_append_getElem hil⟩
    have hall : wi l[i] most = false → inAll l most = false := fun h => by
      have : l.all (fun n => wi n most) = false := by
        rw [List.all_eq_false]; exact ⟨l[i], List.getElem_mem hil, by simp [h]⟩
      simp [inAll, this]
    have hno1 : l[i] < 0 → inAll l most = false := fun h => hall (by simp [wi]; omega)
    have hno2 : most < l[i] → inAll l most = false := fun h => hall (by simp [wi]; omega)
    clear hall
    have ka3 : Hid (0 ≤ l[i] → l[i] ≤ most → ∀ x ∈ l.take (i + 1), wi x most = true) := ⟨fun h1 h2 => by
      rw [kT.out]
      intro x hx
      rcases List.mem_append.1 hx with hx | hx
      · exact ka.out x hx
      · obtain rfl : x = l[i] := by simpa using hx
        simp [wi]; omega⟩
    repeat' (first 
     | (with_reducible refine And.intro (fun h => ?_) (fun h => ?_)) <;> (try (exfalso; omega))
     | (simp -dsimp -implicitDefEqProofs [*]))
    exact Next.intro (i + 1) ⟨by omega, ka3.out (by omega) (by omega)⟩ (by omega) (by simp) (by repeat' (first | exact StLe.refl _ | (refine StLe_cons (by simp [*]; done) ?_) | (refine StLe_fresh (by simp [*]; done) ?_)))
  · have e : i = l.length := by omega
    subst e
    rw [List.take_length] at ka
    have hA : l.all (fun n => wi n most) = true := List.all_eq_true.2 ka.out
    have hE : inAll l most = (decide (1 ≤ l.length) && decide (l.length ≤ 64)) := by simp [inAll, hA]
    rw [hE]
    clear hE hA ka
    repeat' (first 
     | (with_reducible refine And.intro (fun h => ?_) (fun h => ?_)) <;> (try (exfalso; omega))
     | (simp -dsimp -implicitDefEqProofs [*]))
    all_goals first
      | (intros; omega)
      | (have h7 : 1 ≤ l.length := by omega
         rw [decide_eq_true h7, Bool.true_and]
         exact decide_eq_decide.2 (by omega))
def IndexN (l : List Int) (most : Int) (st : Store) (e : PEnd) (s : Store) : Prop := ∃ x : Int, (0 ≤ x ↔ l.all (fun n => wi n most) = false) ∧ e = .ret (.int x) ∧ s = st
theorem index_spec (t : Bool) (l : List Int) (hl : l.length ≤ 100000) (most : Int) (st : Store) : PCalls P F.slices_IndexFunc__Lint_int [intLst t l, .func (.func F.seal_all_1) [] [.iptr [.int most] 0]] st (IndexN l most st) := by
  refine H.slices_IndexFunc__Lint_int.view hmix rfl rfl ?_
  repeat' (simp -dsimp -implicitDefEqProofs [*])
  refine xloop_for (fun i : Nat => [(0, intLst t l), (1, .func (.func F.seal_all_1) [] [.iptr [.int most] 0]), (7, .int l.length), (8, .int (i : Nat))]) (fun _ => st) (fun i => i ≤ l.length ∧ ∀ n ∈ l.take i, wi n most = true) (fun i => l.length - i) 0 ⟨by omega, by simp⟩ (by simp) (.refl _) ?_
  rintro i ⟨hi, ha⟩
  have ka : Hid (∀ n ∈ l.take i, wi n most = true) := ⟨ha⟩
  clear ha
  by_cases hil : i < l.length
  · have hg := intRow_get l i hil
    have hwi := wrap_succ (n := i) (by omega)
    have kT : Hid (l.take (i + 1) = l.take i ++ [l[i]]) := ⟨List.take_succ_eq_append_getElem hil⟩
    have h1 := fun st => all1_spec l[i] most st
    cases hw : wi l[i] most with
    | false =>
      have hall : Hid (l.all (fun n => wi n most) = false) := ⟨by rw [List.all_eq_false]; exact ⟨l[i], List.getElem_mem hil, by simp [hw]⟩⟩
      rw [hw] at h1
      repeat' (first 
       | (with_reducible refine Rets.xcall (h1 _) ?_)
       | (simp -dsimp -implicitDefEqProofs [*]))
      exact .same ⟨i, ⟨fun _ => hall.out, fun _ => by omega⟩, rfl, rfl⟩
    | true =>
      have ka3 : Hid (∀ x ∈ l.take (i + 1), wi x most = true) := ⟨by
        rw [kT.out]
        intro x hx
        rcases List.mem_append.1 hx with hx | hx
        · exact ka.out x hx
        · obtain rfl : x = l[i] := by simpa using hx
          exact hw⟩
      rw [hw] at h1
      repeat' (first 
       | (with_reducible refine Rets.xcall (h1 _) ?_)
       | (simp -dsimp -implicitDefEqProofs [*]))
      exact Next.intro (i + 1) ⟨by omega, ka3.out⟩ (by omega) (by simp) (by repeat' (first | exact StLe.refl _ | (refine StLe_cons (by simp [*]; done) ?_) | (refine StLe_fresh (by simp [*]; done) ?_)))
  · have e : i = l.length := by omega
    subst e
    rw [List.take_length] at ka
    have hA : Hid (l.all (fun n => wi n most) = true) := ⟨List.all_eq_true.2 ka.out⟩
    clear ka
    repeat' (simp -dsimp -implicitDefEqProofs [*])
    exact .same ⟨-1, ⟨fun h => absurd h (by decide), fun h => by rw [hA.out] at h; cases h⟩, rfl, rfl⟩
theorem contains_spec (t : Bool) (l : List Int) (hl : l.length ≤ 100000) (most : Int) (st : Store) : Rets P F.slices_ContainsFunc__Lint_int [intLst t l, .func (.func F.seal_all_1) [] [.iptr [.int most] 0]] st (.bool (!l.all (fun n => wi n most))) := by
  refine H.slices_ContainsFunc__Lint_int.pure hmix rfl rfl ?_
  have hi := fun st => index_spec t l hl most st
  generalize hA : l.all (fun n => wi n most) = A at *
  repeat' (simp -dsimp -implicitDefEqProofs [*])
  refine xcall_post (hi _) ?_
  rintro e s ⟨x, hx, rfl, rfl⟩
  rw [xend_ret]
  rw [hA] at hx
  clear hi hA
  cases A with
  | true =>
    have h : ¬ 0 ≤ x := fun h => by have := hx.1 h; cases this
    clear hx
    repeat' (simp -dsimp -implicitDefEqProofs [*])
  | false =>
    have h : 0 ≤ x := hx.2 rfl
    clear hx
    repeat' (simp -dsimp -implicitDefEqProofs [*])
theorem all_spec (t : Bool) (l : List Int) (hl : l.length ≤ 100000) (most : Int) (st : Store) : Rets P F.seal_all [intLst t l, .int most] st (.bool (inAll l most)) := by
  refine H.seal_all.pure hmix rfl rfl ?_
  have hw1 : IntKind.i64.wrap ((l.length : Int) - 1) = (l.length : Int) - 1 := wrap_in (by omega) (by omega)
  have hwi := fun st => within_spec ((l.length : Int) - 1) 63 st
  have hcc := fun st => contains_spec t l hl most st
  have hE : inAll l most = (wi ((l.length : Int) - 1) 63 && l.all (fun n => wi n most)) := by
    unfold inAll
    congr 1
    simp only [wi]
    congr 1 <;> exact decide_eq_decide.2 (by omega)
  rw [hE]
  clear hE
  generalize l.all (fun n => wi n most) = A at *
  cases hb : wi ((l.length : Int) - 1) 63 with
  | false =>
    rw [hb] at hwi
    clear hcc
    repeat' (first 
     | (with_reducible refine Fresh.intro fun b hb => ?_) <;> (try simp -dsimp -implicitDefEqProofs [*] at hb)
     | (with_reducible refine Rets.xcall (hwi _) ?_)
     | (simp -dsimp -implicitDefEqProofs [*]))
  | true =>
    rw [hb] at hwi
    repeat' (first 
     | (with_reducible refine Fresh.intro fun b hb => ?_) <;> (try simp -dsimp -implicitDefEqProofs [*] at hb)
     | (with_reducible refine Rets.xcall (hwi _) ?_)
     | (simp -dsimp -implicitDefEqProofs [*]))
    refine xcall_frz ‹_› (.refl _) (.cons (.refl _) (.cons (.func _ .nil (.cons (.ptr _ _ 0 rfl) .nil)) .nil)) (hcc _) ?_
    rw [xend_ret]
    clear hcc hwi
    repeat' (simp -dsimp -implicitDefEqProofs [*])
end Go.Proofs.YtmgpkcpalpejcaaDoor
/- Lists put together. -/
namespace Go.Proofs.YtmgpkcpalpejcaaDoor
open Go.Pv Go.Pv.Sha
set_option maxRecDepth 100000
set_option maxHeartbeats 4000000
abbrev QI : Int := 1073741789
theorem make1_spec (x y : Int) (hx : 0 ≤ x) (hx2 : x < 2000000000) (hy : 0 ≤ y) (hy2 : y < 2000000000) (st : Store) : Rets P F.seal_Make_1 [.int x, .int y] st (.int ((x + y) % QI)) := by
  refine H.seal_Make_1.pure hmix rfl rfl ?_
  have w1 : IntKind.i64.wrap (x + y) = x + y := wrap_in (by omega) (by omega)
  have e : (x + y).tmod 1073741789 = (x + y) % QI := Int.tmod_eq_emod_of_nonneg (by omega)
  have q0 : 0 ≤ (x + y) % QI := Int.emod_nonneg _ (by decide)
  have q1 : (x + y) % QI < 1073741789 := Int.emod_lt_of_pos _ (by decide)
  have w2 : IntKind.i64.wrap ((x + y) % QI) = (x + y) % QI := wrap_in (by omega) (by omega)
  repeat' (simp -dsimp -implicitDefEqProofs [*])
def less (c k : Int) : Int := if c < k then c + QI - k else c - k
theorem bare1_spec (x y : Int) (hx : 0 ≤ x) (hx2 : x < 2000000000) (hy : 0 ≤ y) (hy2 : y < 2000000000) (st : Store) : Rets P F.seal_bare_1 [.int x, .int y] st (.int (less x y)) := by
  refine H.seal_bare_1.pure hmix rfl rfl ?_
  have w1 : IntKind.i64.wrap (x + 1073741789) = x + 1073741789 := wrap_in (by omega) (by omega)
  have w2 : IntKind.i64.wrap (x + 1073741789 - y) = x + 1073741789 - y := wrap_in (by omega) (by omega)
  have w3 : IntKind.i64.wrap (x - y) = x - y := wrap_in (by omega) (by omega)
  by_cases h : x < y
  · have e : less x y = x + 1073741789 - y := if_pos h
    repeat' (simp -dsimp -implicitDefEqProofs [*])
  · have e : less x y = x - y := if_neg h
    repeat' (simp -dsimp -implicitDefEqProofs [*])
theorem zip_spec (g : FuncId) (f : Int → Int → Int) (t u : Bool) (l m : List Int) (hl : l.length ≤ 1000) (hm : l.length = m.length) (hf : ∀ (i : Nat) (h : i < l.length) (st : Store), Rets P g [.int l[i], .int (m[i]'(by omega))] st (.int (f l[i] (m[i]'(by omega))))) (st : Store) :
    Rets P F.seal_zip__int_int_int [intLst t l, intLst u m, .func (.func g) [] []] st (intLst false (List.zipWith f l m)) := by
  refine H.seal_zip__int_int_int.view hmix rfl rfl ?_
  repeat' (simp -dsimp -implicitDefEqProofs [-xappend_list, *])
  refine xloop_for (fun y : Nat × Option (Acc Int) => [(1, intLst u m), (2, .func (.func g) [] []), (6, accP y.2), (9, intLst t l), (10, .int l.length), (11, .int (y.1 : Nat))]) (fun y => accS T.int st y.2) (fun y => y.1 ≤ l.length ∧ accOk intRow 1 st y.2 ∧ accL y.2 = (List.zipWith f l m).take y.1) (fun y => l.length - y.1) (0, none) ⟨by omega, trivial, rfl⟩ (by simp; omega) (.refl _) ?_
  rintro ⟨i, o⟩ ⟨hi, ho, hol⟩
  simp only at hi ho hol
  have kl : Hid (accL o = (List.zipWith f l m).take i) := ⟨hol⟩
  clear hol
  by_cases hil : i < l.length
  · have him : i < m.length := by omega
    have hg := intRow_get l i hil
    have hg2 := intRow_get m i him
    have hwi := wrap_succ (n := i) (by omega)
    have hz : i < (List.zipWith f l m).length := by rw [List.length_zipWith]; omega
    have kT : Hid ((List.zipWith f l m).take (i + 1) = (List.zipWith f l m).take i ++ [f l[i] m[i]]) := ⟨by rw [List.take_succ_eq_append_getElem hz, List.getElem_zipWith]⟩
    have hf1 := fun st => hf i hil st
    have kn : Hid ((accL o).length ≤ 1000) := ⟨by rw [kl.out, List.length_take]; omega⟩
    clear hf
    repeat' (first 
     | (with_reducible refine Rets.xcall (hf1 _) ?_)
     | (with_reducible refine Lit.imm ?_)
     | (simp -dsimp -implicitDefEqProofs [-xappend_list, *]))
    refine xappend_accP0 intRow_len intRow_append o ho [f l[i] m[i]] rfl rfl (by have := kn.out; omega) fun o' ho' hl' => ?_
    have kl' : Hid (accL o' = (List.zipWith f l m).take (i + 1)) := ⟨by rw [hl', kl.out, kT.out]⟩
    clear hl' kl kT
    repeat' (simp -dsimp -implicitDefEqProofs [-xappend_list, *])
    exact Next.intro (i + 1, o') ⟨by simp only; omega, ho', kl'.out⟩ (by simp only; omega) (by simp; omega) (by repeat' (first | exact StLe.refl _ | (refine StLe_cons (by simp [*]; done) ?_) | (refine StLe_fresh (by simp [*]; done) ?_)))
  · have e : i = l.length := by omega
    have kl' : Hid (accL o = List.zipWith f l m) := ⟨by rw [kl.out]; exact List.take_of_length_le (by rw [List.length_zipWith]; omega)⟩
    subst e
    clear kl hf
    repeat' (simp -dsimp -implicitDefEqProofs [-xappend_list, *])
    exact RetView.accP1 rfl ho (.same ⟨by rw [kl'.out], rfl⟩)
end Go.Proofs.YtmgpkcpalpejcaaDoor
/- Marks, keys, equal lists. -/
namespace Go.Proofs.YtmgpkcpalpejcaaDoor
open Go.Pv Go.Pv.Sha
set_option maxRecDepth 100000
set_option maxHeartbeats 4000000
theorem refMarks_big (t : Bool) (l : List Int) (hl : l.length ≤ 9223372036854775807) (st : Store) : Rets P F.podiumref34_Marks [intLst t l] st (.bool (inAll l 1000)) := by
  refine H.podiumref34_Marks.pure hmix rfl rfl ?_
  have h := fun st => refWithin_spec t l hl 1000 st
  repeat' (first 
   | (with_reducible refine Rets.xcall (h _) ?_)
   | (simp -dsimp -implicitDefEqProofs [*]))
theorem refKeys_big (t : Bool) (l : List Int) (hl : l.length ≤ 9223372036854775807) (st : Store) : Rets P F.podiumref34_Keys [intLst t l] st (.bool (inAll l 1073741788)) := by
  refine H.podiumref34_Keys.pure hmix rfl rfl ?_
  have h := fun st => refWithin_spec t l hl 1073741788 st
  repeat' (first 
   | (with_reducible refine Rets.xcall (h _) ?_)
   | (simp -dsimp -implicitDefEqProofs [*]))
theorem refMarks_spec (t : Bool) (l : List Int) (hl : l.length ≤ 100000) (st : Store) : Rets P F.podiumref34_Marks [intLst t l] st (.bool (inAll l 1000)) := refMarks_big t l (by omega) st
theorem refKeys_spec (t : Bool) (l : List Int) (hl : l.length ≤ 100000) (st : Store) : Rets P F.podiumref34_Keys [intLst t l] st (.bool (inAll l 1073741788)) := refKeys_big t l (by omega) st
theorem sameInts_spec (t u : Bool) (l m : List Int) (hl : l.length ≤ 100000) (hm : m.length ≤ 100000) (st : Store) : Rets P F.podiumref34_SameInts [intLst t l, intLst u m] st (.bool (decide (l = m))) := by
  refine H.podiumref34_SameInts.pure hmix rfl rfl ?_
  by_cases hlm : l.length = m.length
  · have hlm' : (l.length : Int) = m.length := by omega
    repeat' (simp -dsimp -implicitDefEqProofs [*])
    refine xloop_for (fun i : Nat => [(0, intLst t l), (1, intLst u m), (5, .int (i : Nat))]) (fun _ => st) (fun i => i ≤ l.length ∧ l.take i = m.take i) (fun i => l.length - i) 0 ⟨by omega, by simp⟩ (by simp) (.refl _) ?_
    rintro i ⟨hi, ha⟩
    have ka : Hid (l.take i = m.take i) := ⟨ha⟩
    have km : Hid (l.length = m.length) := ⟨hlm⟩
    clear ha hlm'
    by_cases hil : i < l.length
    · have him : i < m.length := by omega
      have hg := intRow_get l i hil
      have hg2 := intRow_get m i him
      have hwi := wrap_succ (n := i) (by omega)
      clear hlm
      by_cases he : l[i] = m[i]
      · have kT : Hid (l.take (i + 1) = m.take (i + 1)) := ⟨by rw [List.take_succ_eq_append_getElem hil, List.take_succ_eq_append_getElem him, ka.out, he]⟩
        repeat' (simp -dsimp -implicitDefEqProofs [*])
        exact Next.intro (i + 1) ⟨by omega, kT.out⟩ (by omega) (by simp) (by repeat' (first | exact StLe.refl _ | (refine StLe_cons (by simp [*]; done) ?_) | (refine StLe_fresh (by simp [*]; done) ?_)))
      · have hne : ¬ l = m := fun h => he (by subst h; rfl)
        repeat' (simp -dsimp -implicitDefEqProofs [*])
    · have e : l = m := by
        have := ka.out
        rwa [List.take_of_length_le (by omega), List.take_of_length_le (by omega)] at this
      subst e
      clear hlm ka km
      repeat' (simp -dsimp -implicitDefEqProofs [*])
  · have hne : ¬ l = m := fun h => hlm (by rw [h])
    have hlm' : ¬ (l.length : Int) = m.length := by omega
    repeat' (simp -dsimp -implicitDefEqProofs [*])
end Go.Proofs.YtmgpkcpalpejcaaDoor
/- Check. -/
namespace Go.Proofs.YtmgpkcpalpejcaaDoor
open Go.Pv Go.Pv.Sha
set_option maxRecDepth 100000
set_option maxHeartbeats 4000000
theorem caught_top (b : Nat) (n m : Int) (st : Store) : Defs P F.seal_caught [.ptr b 0] (.panicking (.iface T.apiErrno (.int n))) ((b, .arr T.apiErrno [.int m]) :: st) .returning ((b, .arr T.apiErrno [.int n]) :: st) := by
  have h := caught_pan b n m ((b, .arr T.apiErrno [.int m]) :: st) (by simp)
  simpa [sset] using h
def chk (r e j : Int) (l : List Int) : Bool := placeOk r e j && inAll l 1073741788
abbrev sealedV (r e j : Int) (t : Bool) (l : List Int) (d : List (BitVec 8)) : PV := .agg (sealedEnc r e j t l (byteRow d))
theorem refCheckS_spec (r e j : Int) (t : Bool) (l : List Int) (hl : l.length ≤ 100000) (d : List (BitVec 8)) (st : Store) : Rets P F.podiumref34_Check [sealedV r e j t l d] st (.int (if chk r e j l then 0 else 340)) := by
  refine H.podiumref34_Check.pure hmix rfl rfl ?_
  have hp := fun st => refPlace_spec r e j st
  have hk := fun st => refKeys_spec t l hl st
  generalize hR : (if chk r e j l then (0 : Int) else 340) = R
  unfold chk at hR
  generalize placeOk r e j = A at *
  generalize inAll l 1073741788 = B at *
  cases A <;> cases B <;> simp only [Bool.and_true, Bool.and_false, Bool.false_eq_true, if_true, if_false] at hR <;> subst hR
  · repeat' (first 
     | (with_reducible refine Fresh.intro fun b hb => ?_) <;> (try simp -dsimp -implicitDefEqProofs [*] at hb)
     | (with_reducible refine Rets.xcall (hp _) ?_)
     | (simp -dsimp -implicitDefEqProofs [sealedEnc, *]))
  · repeat' (first 
     | (with_reducible refine Fresh.intro fun b hb => ?_) <;> (try simp -dsimp -implicitDefEqProofs [*] at hb)
     | (with_reducible refine Rets.xcall (hp _) ?_)
     | (simp -dsimp -implicitDefEqProofs [sealedEnc, *]))
  · repeat' (first 
     | (with_reducible refine Fresh.intro fun b hb => ?_) <;> (try simp -dsimp -implicitDefEqProofs [*] at hb)
     | (with_reducible refine Rets.xcall (hp _) ?_)
     | (with_reducible refine Rets.xcall (hk _) ?_)
     | (simp -dsimp -implicitDefEqProofs [sealedEnc, *]))
  · repeat' (first 
     | (with_reducible refine Fresh.intro fun b hb => ?_) <;> (try simp -dsimp -implicitDefEqProofs [*] at hb)
     | (with_reducible refine Rets.xcall (hp _) ?_)
     | (with_reducible refine Rets.xcall (hk _) ?_)
     | (simp -dsimp -implicitDefEqProofs [sealedEnc, *]))
theorem checkS_spec (r e j : Int) (t : Bool) (l : List Int) (hl : l.length ≤ 100000) (d : List (BitVec 8)) (hd : d.length = 32) (st : Store) : Rets P F.seal_Check [sealedV r e j t l d] st (.int (if chk r e j l then 0 else 340)) := by
  refine H.seal_Check.pure hmix rfl rfl ?_
  have hp1 : placeOk r e j = true → ∀ st, Rets P F.seal_placed [.agg (.int r :: .int e :: .int j :: intLst t l :: byteRow d)] st (.tuple []) := fun h st => placed_ok r e j t l (byteRow d) h st
  have hp2 : placeOk r e j = false → ∀ st, Panics P F.seal_placed [.agg (.int r :: .int e :: .int j :: intLst t l :: byteRow d)] st (.iface T.apiErrno (.int 340)) := fun h st => placed_no r e j t l (byteRow d) h st
  have ha := fun st => all_spec t l hl 1073741788 st
  have hdl : (byteRow d).length = 32 := by simp [hd]
  have htk : List.take 32 (byteRow d) = byteRow d := List.take_of_length_le (by omega)
  generalize hR : (if chk r e j l then (0 : Int) else 340) = R
  unfold chk at hR
  generalize placeOk r e j = A at *
  generalize inAll l 1073741788 = B at *
  cases A <;> cases B <;> simp only [Bool.and_true, Bool.and_false, Bool.false_eq_true, if_true, if_false] at hR <;> subst hR
  · have hp3 := hp2 rfl
    clear hp1 hp2
    repeat' (first 
     | (with_reducible refine Fresh.intro fun b hb => ?_) <;> (try simp -dsimp -implicitDefEqProofs [*] at hb)
     | (with_reducible refine Panics.xcall (hp3 _) ?_)
     | (with_reducible refine Defs.xdef (caught_top _ _ _ _) ?_)
     | (simp -dsimp -implicitDefEqProofs [sealedEnc, H.seal_caught.enters, *]))
    repeat' (simp -dsimp -implicitDefEqProofs [epick, *])
  · have hp3 := hp2 rfl
    clear hp1 hp2
    repeat' (first 
     | (with_reducible refine Fresh.intro fun b hb => ?_) <;> (try simp -dsimp -implicitDefEqProofs [*] at hb)
     | (with_reducible refine Panics.xcall (hp3 _) ?_)
     | (with_reducible refine Defs.xdef (caught_top _ _ _ _) ?_)
     | (simp -dsimp -implicitDefEqProofs [sealedEnc, H.seal_caught.enters, *]))
    repeat' (simp -dsimp -implicitDefEqProofs [epick, *])
  · have hp3 := hp1 rfl
    clear hp1 hp2
    repeat' (first 
     | (with_reducible refine Fresh.intro fun b hb => ?_) <;> (try simp -dsimp -implicitDefEqProofs [*] at hb)
     | (with_reducible refine Rets.xcall (hp3 _) ?_)
     | (with_reducible refine Rets.xcall (ha _) ?_)
     | (with_reducible refine Panics.xcall (need_no _) ?_)
     | (with_reducible refine Defs.xdef (caught_top _ _ _ _) ?_)
     | (simp -dsimp -implicitDefEqProofs [sealedEnc, H.seal_caught.enters, *]))
    repeat' (simp -dsimp -implicitDefEqProofs [epick, *])
  · have hp3 := hp1 rfl
    clear hp1 hp2
    repeat' (first 
     | (with_reducible refine Fresh.intro fun b hb => ?_) <;> (try simp -dsimp -implicitDefEqProofs [*] at hb)
     | (with_reducible refine Rets.xcall (hp3 _) ?_)
     | (with_reducible refine Rets.xcall (ha _) ?_)
     | (with_reducible refine Rets.xcall (need_ok _) ?_)
     | (with_reducible refine Defs.xdef (caught_ret _ _) ?_)
     | (simp -dsimp -implicitDefEqProofs [sealedEnc, H.seal_caught.enters, *]))
end Go.Proofs.YtmgpkcpalpejcaaDoor
