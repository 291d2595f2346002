/- Package nat: small functions. -/
import Derived.Test.YtliglilanpfjhaaCode
import Derived.Test.YtliglilanpfjhaaLRf
namespace Go.Proofs.Ytliglilanpfjhaa
open Go.Pv
set_option maxRecDepth 100000
theorem trimD_full {l : List Int} {n : Nat} (h : n ≤ l.length) (hz : ∀ h0 : 0 < n, l[n - 1] ≠ 0) : trimD (l.take n) = l.take n := by
  by_cases h0 : n = 0
  · subst h0; rfl
  · obtain ⟨m, rfl⟩ : ∃ m, n = m + 1 := ⟨n - 1, by omega⟩
    have := hz (by omega)
    rw [List.take_succ_eq_append_getElem (by omega)]
    exact trimD_snoc this
theorem trimD_less {l : List Int} {n : Nat} (h : n < l.length) (hz : l[n] = 0) : trimD (l.take (n + 1)) = trimD (l.take n) := by
  rw [List.take_succ_eq_append_getElem h, hz, trimD_snoc0]
theorem trim_spec (t : Bool) (L : List Int) (hL : L.length ≤ 100000) (st : Store) : Rets P F.nat_trim [intLst t L] st (intLst false (trimD L)) := by
  refine H.nat_trim.view hmix rfl rfl ?_
  repeat' (simp -dsimp -implicitDefEqProofs [*])
  refine xloop_for (fun n : Nat => [(0, intLst t L), (3, .int n)]) (fun _ => st) (fun n => n ≤ L.length ∧ trimD (L.take n) = trimD L) (fun n => n) L.length ⟨Nat.le_refl _, by rw [List.take_of_length_le (Nat.le_refl _)]⟩ (by simp) (.refl _) ?_
  rintro n ⟨hn, he⟩
  by_cases h0 : n = 0
  · subst h0
    have he : trimD L = [] := by rw [← he]; rfl
    repeat' (simp -dsimp -implicitDefEqProofs [*])
    exact .same ⟨rfl, rfl⟩
  · obtain ⟨m, rfl⟩ : ∃ m, n = m + 1 := ⟨n - 1, by omega⟩
    have hml : m < L.length := by omega
    have hg := intRow_get L m hml
    have w1 : IntKind.i64.wrap (m : Int) = m := wrap_in (by omega) (by omega)
    have p1 : (0 : Int) < (m : Int) + 1 := by omega
    by_cases hz : L[m] = 0
    · have he2 : Hid (trimD (L.take m) = trimD L) := ⟨by rw [← he, trimD_less hml hz]⟩
      clear he
      repeat' (simp -dsimp -implicitDefEqProofs [*])
      exact Next.intro m ⟨by omega, he2.out⟩ (by omega) (by simp) (by repeat' (first | exact StLe.refl _ | (refine StLe_cons (by simp [*]; done) ?_) | (refine StLe_fresh (by simp [*]; done) ?_)))
    · have he2 : Hid (trimD L = L.take (m + 1)) := ⟨by rw [← he]; exact trimD_full (by omega) fun _ => hz⟩
      clear he
      repeat' (first 
       | ((with_reducible refine and_keep ?_ fun hk => ?_); omega)
       | (simp -dsimp -implicitDefEqProofs [*]))
      refine .same ⟨?_, rfl⟩
      rw [he2.out]; simp [intLst, intRow, List.map_take, Nat.min_eq_left hn]
theorem trim_own (b cap : Nat) (L : List Int) (C : List PV) (hL : L.length ≤ 100000) (hc : L.length ≤ cap) (st : Store) (hb : sget st b = some (.arr T.int (intRow L ++ C))) : Rets P F.nat_trim [.own b 0 L.length cap] st (.own b 0 (trimD L).length cap) := by
  refine H.nat_trim.view hmix rfl rfl ?_
  repeat' (simp -dsimp -implicitDefEqProofs [*])
  refine xloop_for (fun n : Nat => [(0, .own b 0 L.length cap), (3, .int n)]) (fun _ => st) (fun n => n ≤ L.length ∧ trimD (L.take n) = trimD L) (fun n => n) L.length ⟨Nat.le_refl _, by rw [List.take_of_length_le (Nat.le_refl _)]⟩ (by simp) (.refl _) ?_
  rintro n ⟨hn, he⟩
  by_cases h0 : n = 0
  · subst h0
    have he : trimD L = [] := by rw [← he]; rfl
    repeat' (simp -dsimp -implicitDefEqProofs [*])
    exact .same ⟨rfl, rfl⟩
  · obtain ⟨m, rfl⟩ : ∃ m, n = m + 1 := ⟨n - 1, by omega⟩
    have hml : m < L.length := by omega
    have hg : (intRow L ++ C)[m]? = some (.int L[m]) := by rw [List.getElem?_append_left (by simpa using hml)]; exact intRow_get L m hml
    have w1 : IntKind.i64.wrap (m : Int) = m := wrap_in (by omega) (by omega)
    have p1 : (0 : Int) < (m : Int) + 1 := by omega
    by_cases hz : L[m] = 0
    · have he2 : Hid (trimD (L.take m) = trimD L) := ⟨by rw [← he, trimD_less hml hz]⟩
      clear he
      repeat' (simp -dsimp -implicitDefEqProofs [*])
      exact Next.intro m ⟨by omega, he2.out⟩ (by omega) (by simp) (by repeat' (first | exact StLe.refl _ | (refine StLe_cons (by simp [*]; done) ?_) | (refine StLe_fresh (by simp [*]; done) ?_)))
    · have he2 : Hid (trimD L = L.take (m + 1)) := ⟨by rw [← he]; exact trimD_full (by omega) fun _ => hz⟩
      clear he
      repeat' (first 
       | ((with_reducible refine and_keep ?_ fun hk => ?_); omega)
       | (simp -dsimp -implicitDefEqProofs [*]))
      refine .same ⟨?_, rfl⟩
      rw [he2.out]; simp [Nat.min_eq_left hn]
theorem odd_spec (d : Int) (st : Store) : Rets P F.nat_Check_1 [.int d] st (.bool (!(decide (0 ≤ d) && decide (d ≤ 1073741823)))) := by
  refine H.nat_Check_1.pure hmix rfl rfl ?_
  by_cases h1 : 0 ≤ d
  · by_cases h2 : d ≤ 1073741823
    · have h3 : ¬ d < 0 := by omega
      have h4 : ¬ 1073741823 < d := by omega
      repeat' (simp -dsimp -implicitDefEqProofs [*])
    · have h3 : ¬ d < 0 := by omega
      have h4 : 1073741823 < d := by omega
      repeat' (simp -dsimp -implicitDefEqProofs [*])
  · have h3 : d < 0 := by omega
    repeat' (simp -dsimp -implicitDefEqProofs [*])
def idxF (p : Int → Bool) (L : List Int) : Int := if L.any p = true then (L.findIdx p : Nat) else -1
theorem idxF_found {p : Int → Bool} {L : List Int} {i : Nat} (hi : i < L.length) (h : ∀ j (hj : j < i), p (L[j]'(by omega)) = false) (hp : p L[i] = true) : idxF p L = i := by
  have h1 : L.any p = true := List.any_eq_true.2 ⟨_, List.getElem_mem hi, hp⟩
  rw [idxF, if_pos h1]
  congr 1
  rw [List.findIdx_eq hi]
  exact ⟨hp, fun j hj => h j hj⟩
theorem idxF_none {p : Int → Bool} {L : List Int} (h : ∀ j (hj : j < L.length), p L[j] = false) : idxF p L = -1 := by
  have h1 : ¬ L.any p = true := by
    rw [List.any_eq_true]
    rintro ⟨x, hx, hp⟩
    obtain ⟨j, hj, rfl⟩ := List.getElem_of_mem hx
    rw [h j hj] at hp
    cases hp
  rw [idxF, if_neg h1]
theorem idxF_pos {p : Int → Bool} {L : List Int} : decide (0 ≤ idxF p L) = L.any p := by
  unfold idxF
  cases h : L.any p <;> simp
theorem indexFunc_spec (g : FuncId) (p : Int → Bool) (hf : ∀ d st, Rets P g [.int d] st (.bool (p d))) (t : Bool) (L : List Int) (hL : L.length ≤ 100000) (st : Store) : Rets P F.slices_IndexFunc__Lint_int [intLst t L, .func (.func g) [] []] st (.int (idxF p L)) := by
  refine H.slices_IndexFunc__Lint_int.view hmix rfl rfl ?_
  repeat' (simp -dsimp -implicitDefEqProofs [*])
  refine xloop_for (fun n : Nat => [(0, intLst t L), (1, .func (.func g) [] []), (7, .int L.length), (8, .int n)]) (fun _ => st) (fun n => n ≤ L.length ∧ ∀ j (hj : j < n) (hl : j < L.length), p L[j] = false) (fun n => L.length - n) 0 ⟨Nat.zero_le _, fun j hj => absurd hj (by omega)⟩ (by simp) (.refl _) ?_
  rintro n ⟨hn, he⟩
  have he2 : Hid (∀ j (hj : j < n) (hl : j < L.length), p L[j] = false) := ⟨he⟩
  clear he
  by_cases hnl : n < L.length
  · have hg := intRow_get L n hnl
    have hw := wrap_succ (n := n) (by omega)
    cases hp : p L[n] with
    | true =>
      have hi : Hid (idxF p L = n) := ⟨idxF_found hnl (fun j hj => he2.out j hj (by omega)) hp⟩
      have hf1 := hf L[n]
      clear hf
      repeat' (first 
       | (with_reducible refine Rets.xcall (hf1 _) ?_)
       | (simp -dsimp -implicitDefEqProofs [*]))
      exact .same ⟨by rw [hi.out], rfl⟩
    | false =>
      have hf1 := hf L[n]
      clear hf
      repeat' (first 
       | (with_reducible refine Rets.xcall (hf1 _) ?_)
       | (simp -dsimp -implicitDefEqProofs [*]))
      exact Next.intro (n + 1) ⟨by omega, fun j hj hl => if h : j = n then by subst h; exact hp else he2.out j (by omega) hl⟩ (by omega) (by simp) (by repeat' (first | exact StLe.refl _ | (refine StLe_cons (by simp [*]; done) ?_) | (refine StLe_fresh (by simp [*]; done) ?_)))
  · have e : n = L.length := by omega
    subst e
    have hi : Hid (idxF p L = -1) := ⟨idxF_none fun j hj => he2.out j hj hj⟩
    clear hf
    repeat' (simp -dsimp -implicitDefEqProofs [*])
    exact .same ⟨by rw [hi.out], rfl⟩
theorem containsFunc_spec (g : FuncId) (p : Int → Bool) (hf : ∀ d st, Rets P g [.int d] st (.bool (p d))) (t : Bool) (L : List Int) (hL : L.length ≤ 100000) (st : Store) : Rets P F.slices_ContainsFunc__Lint_int [intLst t L, .func (.func g) [] []] st (.bool (L.any p)) := by
  refine H.slices_ContainsFunc__Lint_int.pure hmix rfl rfl ?_
  have hi := indexFunc_spec g p hf t L hL
  clear hf
  have hp := idxF_pos (p := p) (L := L)
  cases h : L.any p with
  | true =>
    rw [h] at hp
    simp only [decide_eq_true_eq] at hp
    repeat' (first 
     | (with_reducible refine Rets.xcall (hi _) ?_)
     | (simp -dsimp -implicitDefEqProofs [*]))
  | false =>
    rw [h] at hp
    simp only [decide_eq_false_iff_not] at hp
    repeat' (first 
     | (with_reducible refine Rets.xcall (hi _) ?_)
     | (simp -dsimp -implicitDefEqProofs [*]))
end Go.Proofs.Ytliglilanpfjhaa
/- Package nat: Check, big, caught. -/
namespace Go.Proofs.Ytliglilanpfjhaa
open Go.Pv
set_option maxRecDepth 100000
abbrev digOk (d : Int) : Bool := decide (0 ≤ d) && decide (d ≤ 1073741823)
theorem any_not_all (q : Int → Bool) (L : List Int) : L.any (fun d => !q d) = !L.all q := by
  induction L with
  | nil => rfl
  | cons x L ih => rw [List.any_cons, List.all_cons, ih, Bool.not_and]
/-- How a number is checked. -/
theorem bigOk_long {s : Bool} {L : List Int} (h : 2048 < L.length) : bigOk s L = false := by
  have : decide (L.length ≤ 2048) = false := by simp; omega
  simp [bigOk, this]
theorem bigOk_nil (s : Bool) : bigOk s [] = !s := by simp [bigOk]
theorem bigOk_cons {s : Bool} {L : List Int} (h0 : L.length ≤ 2048) (h : 0 < L.length) : bigOk s L = (decide (L[L.length - 1] ≠ 0) && L.all digOk) := by
  have h1 : L.isEmpty = false := by cases L with
    | nil => simp at h
    | cons => rfl
  have h2 : L.getLast? = some (L[L.length - 1]) := by rw [List.getLast?_eq_getElem?, List.getElem?_eq_getElem (by omega)]
  simp [bigOk, h0, h1, h2]
def bigP (s t : Bool) (L : List Int) : List PV := [.bool s, intLst t L]
def errB (b : Bool) (e : Int) : Int := if b then 0 else e
theorem natCheck_spec (s t : Bool) (L : List Int) (hL : L.length ≤ 100000) (st : Store) : Rets P F.nat_Check [.agg (bigP s t L)] st (.int (errB (bigOk s L) 90)) := by
  refine H.nat_Check.pure hmix rfl rfl ?_
  have hc := containsFunc_spec F.nat_Check_1 (fun d => !digOk d) (fun d st => odd_spec d st) t L hL
  rw [any_not_all digOk] at hc
  by_cases h1 : 2048 < L.length
  · have h2 := bigOk_long (s := s) h1
    have h3 : (2048 : Int) < L.length := by omega
    repeat' (first 
     | (with_reducible refine Fresh.intro fun b hb => ?_) <;> (try simp -dsimp -implicitDefEqProofs [*] at hb)
     | (simp -dsimp -implicitDefEqProofs [bigP, errB, *]))
  · have h3 : ¬ (2048 : Int) < L.length := by omega
    by_cases h4 : L = []
    · subst h4
      have h5 := bigOk_nil s
      cases s with
      | true =>
        repeat' (first 
         | (with_reducible refine Fresh.intro fun b hb => ?_) <;> (try simp -dsimp -implicitDefEqProofs [*] at hb)
         | (simp -dsimp -implicitDefEqProofs [bigP, errB, *]))
      | false =>
        repeat' (first 
         | (with_reducible refine Fresh.intro fun b hb => ?_) <;> (try simp -dsimp -implicitDefEqProofs [*] at hb)
         | (with_reducible refine Rets.xcall (hc _) ?_)
         | (simp -dsimp -implicitDefEqProofs [bigP, errB, *]))
    · have h6 : 0 < L.length := List.length_pos_iff.2 h4
      have h6' : (0 : Int) < L.length := by omega
      have h7 := bigOk_cons (s := s) (show L.length ≤ 2048 by omega) h6
      have h8 : ¬ (L.length : Int) = 0 := by omega
      have w1 : IntKind.i64.wrap ((L.length : Int) - 1) = ((L.length - 1 : Nat) : Int) := by rw [show ((L.length - 1 : Nat) : Int) = (L.length : Int) - 1 by omega]; exact wrap_in (by omega) (by omega)
      have hg := intRow_get L (L.length - 1) (by omega)
      have hlt : L.length - 1 < L.length := by omega
      by_cases h9 : L[L.length - 1] = 0
      · clear hc
        have h7 : bigOk s L = false := by rw [h7, h9]; simp
        repeat' (first 
         | (with_reducible refine Fresh.intro fun b hb => ?_) <;> (try simp -dsimp -implicitDefEqProofs [*] at hb)
         | (simp -dsimp -implicitDefEqProofs [bigP, errB, *]))
      · cases h10 : L.all digOk with
        | true =>
          rw [h10] at hc h7
          have h7 : bigOk s L = true := by rw [h7]; simpa using h9
          repeat' (first 
           | (with_reducible refine Fresh.intro fun b hb => ?_) <;> (try simp -dsimp -implicitDefEqProofs [*] at hb)
           | (with_reducible refine Rets.xcall (hc _) ?_)
           | (simp -dsimp -implicitDefEqProofs [bigP, errB, *]))
        | false =>
          rw [h10] at hc h7
          have h7 : bigOk s L = false := by rw [h7]; simp
          repeat' (first 
           | (with_reducible refine Fresh.intro fun b hb => ?_) <;> (try simp -dsimp -implicitDefEqProofs [*] at hb)
           | (with_reducible refine Rets.xcall (hc _) ?_)
           | (simp -dsimp -implicitDefEqProofs [bigP, errB, *]))
end Go.Proofs.Ytliglilanpfjhaa
