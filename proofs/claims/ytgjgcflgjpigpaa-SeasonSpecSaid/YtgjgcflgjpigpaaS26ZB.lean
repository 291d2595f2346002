/- Numbers and scores as they stand in the cells. -/
import Derived.Test.YtgjgcflgjpigpaaS26ZG
import Derived.Test.YtgjgcflgjpigpaaS26J
import Derived.Test.YtgjgcflgjpigpaaLLx
import Derived.Test.YtgjgcflgjpigpaaLBn
import Derived.Test.YtgjgcflgjpigpaaLRd
namespace Go.Proofs.Ytgjgcflgjpigpaa
open Go.Pv
set_option maxRecDepth 100000
set_option maxHeartbeats 8000000
/-- A number in its cells, right or not. -/
structure Rw where
  s1 : Bool
  L1 : List Int
  s2 : Bool
  L2 : List Int
  deriving Inhabited, DecidableEq
def Rw.enc (r : Rw) : List PV := [.bool r.s1, .list false (intRow r.L1) r.L1.length, .bool r.s2, .list false (intRow r.L2) r.L2.length]
abbrev Rw.pv (r : Rw) : PV := .agg r.enc
def Rw.Len (r : Rw) : Prop := r.L1.length ≤ 100000 ∧ r.L2.length ≤ 100000
def Rw.val (r : Rw) : Rat := ratV r.s1 r.L1 r.L2
theorem plain_intRow (b : Nat) (o : PObj) (k : Nat) (l : List Int) : fzps b o k (intRow l) = intRow l := fzps_plain b o k fun p hp => by
  unfold intRow at hp
  obtain ⟨x, -, rfl⟩ := List.mem_map.1 hp
  rfl
section
variable (r : Rw) (b k : Nat) (o : PObj)
@[simp] theorem Rw.len : r.enc.length = 4 := rfl
@[simp] theorem Rw.sub_all : sub r.enc 0 4 = some r.enc := rfl
@[simp] theorem Rw.get1 : r.enc[1]? = some (.list false (intRow r.L1) r.L1.length) := rfl
@[simp] theorem Rw.get3 : r.enc[3]? = some (.list false (intRow r.L2) r.L2.length) := rfl
@[simp] theorem Rw.getE1 (h : 1 < r.enc.length) : r.enc[1]'h = .list false (intRow r.L1) r.L1.length := rfl
@[simp] theorem Rw.getE3 (h : 3 < r.enc.length) : r.enc[3]'h = .list false (intRow r.L2) r.L2.length := rfl
@[simp] theorem Rw.fz : fzps b o k r.enc = r.enc := by simp [Rw.enc, plain_intRow]
end
def Rw.row (l : List Rw) : List PV := l.flatMap Rw.enc
@[simp] theorem Rw.row_len (l : List Rw) : (Rw.row l).length = l.length * 4 := flat_length Rw.enc 4 Rw.len l
@[simp] theorem Rw.row_sub (l : List Rw) (i : Nat) (h : i < l.length) : sub (Rw.row l) (i * 4) 4 = some (l[i]).enc := flat_sub Rw.enc 4 Rw.len l i h
@[simp] theorem Rw.row_fz (b : Nat) (o : PObj) (k : Nat) (l : List Rw) : fzps b o k (Rw.row l) = Rw.row l := flat_fz Rw.enc (fun b o k x => Rw.fz x b k o) b o k l
abbrev Rw.lst (l : List Rw) : PV := .list false (Rw.row l) l.length
theorem Rw.row_append (l m : List Rw) : Rw.row (l ++ m) = Rw.row l ++ Rw.row m := by simp [Rw.row]
/-- A score in its cells. -/
structure Rec where
  no : Int
  entry : Int
  at_ : Int
  score : Rw
  deriving Inhabited, DecidableEq
def Rec.enc (x : Rec) : List PV := [.int x.no, .int x.entry, .int x.at_, .bool x.score.s1, .list false (intRow x.score.L1) x.score.L1.length, .bool x.score.s2, .list false (intRow x.score.L2) x.score.L2.length]
abbrev Rec.pv (x : Rec) : PV := .agg x.enc
section
variable (x : Rec) (b k : Nat) (o : PObj)
@[simp] theorem Rec.len : x.enc.length = 7 := rfl
@[simp] theorem Rec.sub_all : sub x.enc 0 7 = some x.enc := rfl
@[simp] theorem Rec.sub_score : sub x.enc 3 4 = some x.score.enc := rfl
@[simp] theorem Rec.get0 : x.enc[0]? = some (.int x.no) := rfl
@[simp] theorem Rec.get1 : x.enc[1]? = some (.int x.entry) := rfl
@[simp] theorem Rec.get2 : x.enc[2]? = some (.int x.at_) := rfl
@[simp] theorem Rec.getE0 (h : 0 < x.enc.length) : x.enc[0]'h = .int x.no := rfl
@[simp] theorem Rec.getE1 (h : 1 < x.enc.length) : x.enc[1]'h = .int x.entry := rfl
@[simp] theorem Rec.getE2 (h : 2 < x.enc.length) : x.enc[2]'h = .int x.at_ := rfl
@[simp] theorem Rec.fz : fzps b o k x.enc = x.enc := by simp [Rec.enc, plain_intRow]
end
def Rec.row (l : List Rec) : List PV := l.flatMap Rec.enc
@[simp] theorem Rec.row_len (l : List Rec) : (Rec.row l).length = l.length * 7 := flat_length Rec.enc 7 Rec.len l
@[simp] theorem Rec.row_sub (l : List Rec) (i : Nat) (h : i < l.length) : sub (Rec.row l) (i * 7) 7 = some (l[i]).enc := flat_sub Rec.enc 7 Rec.len l i h
@[simp] theorem Rec.row_get0 (l : List Rec) (i : Nat) (h : i < l.length) : (Rec.row l)[i * 7]? = some (.int l[i].no) := flat_get Rec.enc 7 Rec.len l i 0 h (by omega)
@[simp] theorem Rec.row_get2 (l : List Rec) (i : Nat) (h : i < l.length) : (Rec.row l)[i * 7 + 2]? = some (.int l[i].at_) := flat_get Rec.enc 7 Rec.len l i 2 h (by omega)
@[simp] theorem Rec.row_fz (b : Nat) (o : PObj) (k : Nat) (l : List Rec) : fzps b o k (Rec.row l) = Rec.row l := flat_fz Rec.enc (fun b o k x => Rec.fz x b k o) b o k l
theorem Rec.row_append (l m : List Rec) : Rec.row (l ++ m) = Rec.row l ++ Rec.row m := by simp [Rec.row]
abbrev Rec.lst (l : List Rec) : PV := .list false (Rec.row l) l.length
def Rec.Len (x : Rec) : Prop := x.score.Len
end Go.Proofs.Ytgjgcflgjpigpaa
/- Small functions of season; amounts, tables that fall. -/
namespace Go.Proofs.Ytgjgcflgjpigpaa
open Go.Pv
set_option maxRecDepth 100000
set_option maxHeartbeats 8000000
def cmpI (a b : Int) : Int := if a < b then -1 else if b < a then 1 else 0
theorem isNaN_spec (a : Int) (st : Store) : Rets P F.cmp_isNaN__int [.int a] st (.bool false) := by
  refine H.cmp_isNaN__int.pure hmix rfl rfl ?_
  repeat' (simp -dsimp -implicitDefEqProofs [*])
theorem cmp_spec (a b : Int) (st : Store) : Rets P F.cmp_Compare__int [.int a, .int b] st (.int (cmpI a b)) := by
  refine H.cmp_Compare__int.pure hmix rfl rfl ?_
  by_cases h1 : a < b
  · have e : cmpI a b = -1 := by unfold cmpI; rw [if_pos h1]
    rw [e]
    repeat' (first 
     | (with_reducible refine Rets.xcall (isNaN_spec _ _) ?_)
     | (simp -dsimp -implicitDefEqProofs [*]))
  · by_cases h2 : b < a
    · have e : cmpI a b = 1 := by unfold cmpI; rw [if_neg h1, if_pos h2]
      rw [e]
      repeat' (first 
       | (with_reducible refine Rets.xcall (isNaN_spec _ _) ?_)
       | (simp -dsimp -implicitDefEqProofs [*]))
    · have e : cmpI a b = 0 := by unfold cmpI; rw [if_neg h1, if_neg h2]
      rw [e]
      repeat' (first 
       | (with_reducible refine Rets.xcall (isNaN_spec _ _) ?_)
       | (simp -dsimp -implicitDefEqProofs [*]))
def btw (n lo hi : Int) : Bool := decide (lo ≤ n) && decide (n ≤ hi)
theorem between_spec (n lo hi : Int) (st : Store) : Rets P F.season_between [.int n, .int lo, .int hi] st (.bool (btw n lo hi)) := by
  refine H.season_between.pure hmix rfl rfl ?_
  simp -dsimp -implicitDefEqProofs
  simp [btw]; grind
theorem amounts1_spec (n : Int) (st : Store) : Rets P F.season_amounts_1 [.int n] st (.bool (!amt n)) := by
  have e : btw n 0 1099511627776 = amt n := rfl
  have c := between_spec n 0 1099511627776
  rw [e] at c
  obtain ⟨r, hr⟩ : ∃ r, r = amt n := ⟨_, rfl⟩
  rw [← hr] at c ⊢
  clear e hr
  refine H.season_amounts_1.pure hmix rfl rfl ?_
  repeat' (first 
   | (with_reducible refine Rets.xcall (c _) ?_)
   | (simp -dsimp -implicitDefEqProofs [*]))
section
variable {α : Type}
def idxG (p : α → Bool) (L : List α) : Int := if L.any p = true then (L.findIdx p : Nat) else -1
theorem idxG_found {p : α → Bool} {L : List α} {i : Nat} (hi : i < L.length) (h : ∀ j (hj : j < i), p (L[j]'(by omega)) = false) (hp : p L[i] = true) : idxG p L = i := by
  have h1 : L.any p = true := List.any_eq_true.2 ⟨_, List.getElem_mem hi, hp⟩
  have h2 : L.findIdx p = i := by
    rw [List.findIdx_eq hi]
    exact ⟨hp, fun j hj => by simpa using h j hj⟩
  unfold idxG
  rw [if_pos h1, h2]
theorem idxG_none {p : α → Bool} {L : List α} (h : ∀ j (hj : j < L.length), p L[j] = false) : idxG p L = -1 := by
  have h1 : ¬ L.any p = true := by
    rw [List.any_eq_true]
    rintro ⟨x, hx, hp⟩
    obtain ⟨j, hj, rfl⟩ := List.mem_iff_getElem.1 hx
    rw [h j hj] at hp
    cases hp
  unfold idxG
  rw [if_neg h1]
theorem idxG_pos (p : α → Bool) (L : List α) : decide (0 ≤ idxG p L) = L.any p := by
  unfold idxG
  cases h : L.any p <;> simp
end
theorem idxI_spec (f : PV) (g : FuncId) (hfn : f = .func (.func g) [] []) (p : Int → Bool) (t : Bool) (L : List Int) (hf : ∀ d ∈ L, ∀ st, Rets P g [.int d] st (.bool (p d))) (hL : L.length ≤ 9223372036854775807) (st : Store) : Rets P F.slices_IndexFunc__Lint_int [intLst t L, f] st (.int (idxG p L)) := by
  subst hfn
  refine H.slices_IndexFunc__Lint_int.view hmix rfl rfl ?_
  repeat' (simp -dsimp -implicitDefEqProofs [*])
  refine xloop_for (fun n : Nat => [(0, intLst t L), (1, .func (.func g) [] []), (7, .int L.length), (8, .int n)]) (fun _ => st) (fun n => n ≤ L.length ∧ Hid (∀ j (hj : j < n) (hl : j < L.length), p L[j] = false)) (fun n => L.length - n) 0 ⟨Nat.zero_le _, ⟨fun j hj => absurd hj (by omega)⟩⟩ (by simp) (.refl _) ?_
  rintro n ⟨hn, he2⟩
  by_cases hnl : n < L.length
  · have hw := wrap_succ (n := n) (by omega)
    have hf1 := hf L[n] (List.getElem_mem hnl)
    have hi : Hid (p L[n] = true → idxG p L = n) := ⟨fun hp => idxG_found hnl (fun j hj => he2.out j hj (by omega)) hp⟩
    have hno : Hid (p L[n] = false → ∀ j (hj : j < n + 1) (hl : j < L.length), p L[j] = false) := ⟨fun hp j hj hl => if h : j = n then by subst h; exact hp else he2.out j (by omega) hl⟩
    clear hf he2
    cases hp : p L[n] with
    | true =>
      rw [hp] at hf1
      have e := hi.out hp
      rw [e]
      clear hp hi hno
      repeat' (first 
       | (with_reducible refine Rets.xcall (hf1 _) ?_)
       | (simp -dsimp -implicitDefEqProofs [*]))
      exact .same ⟨rfl, rfl⟩
    | false =>
      rw [hp] at hf1
      have e : Hid _ := ⟨hno.out hp⟩
      clear hp hi hno
      repeat' (first 
       | (with_reducible refine Rets.xcall (hf1 _) ?_)
       | (simp -dsimp -implicitDefEqProofs [*]))
      exact Next.intro (n + 1) ⟨by omega, e⟩ (by omega) (by simp) (by repeat' (first | exact StLe.refl _ | (refine StLe_cons (by simp [*]; done) ?_) | (refine StLe_fresh (by simp [*]; done) ?_)))
  · have e : n = L.length := by omega
    subst e
    have hi : Hid (idxG p L = -1) := ⟨idxG_none fun j hj => he2.out j hj hj⟩
    rw [hi.out]
    clear hf he2
    repeat' (simp -dsimp -implicitDefEqProofs [*])
    exact .same ⟨rfl, rfl⟩
theorem contI_spec (f : PV) (g : FuncId) (hfn : f = .func (.func g) [] []) (p : Int → Bool) (t : Bool) (L : List Int) (hf : ∀ d ∈ L, ∀ st, Rets P g [.int d] st (.bool (p d))) (hL : L.length ≤ 9223372036854775807) (st : Store) : Rets P F.slices_ContainsFunc__Lint_int [intLst t L, f] st (.bool (L.any p)) := by
  have hi := idxI_spec f g hfn p t L hf hL
  have e := idxG_pos p L
  rw [← e]
  obtain ⟨v, hv⟩ : ∃ v, v = idxG p L := ⟨_, rfl⟩
  rw [← hv] at hi ⊢
  subst hfn
  clear hv e hf
  refine H.slices_ContainsFunc__Lint_int.pure hmix rfl rfl ?_
  repeat' (first 
   | (with_reducible refine Rets.xcall (hi _) ?_)
   | (simp -dsimp -implicitDefEqProofs [*]))
theorem any_not (p : Int → Bool) (L : List Int) : (!L.any fun x => !p x) = L.all p := by
  induction L with
  | nil => rfl
  | cons x L ih => simp [← ih]
theorem amounts_spec (t : Bool) (L : List Int) (hL : L.length ≤ 9223372036854775807) (st : Store) : Rets P F.season_amounts [intLst t L] st (.bool (L.all amt)) := by
  have c := contI_spec (.func (.func F.season_amounts_1) [] []) F.season_amounts_1 rfl (fun x => !amt x) t L (fun d _ st => amounts1_spec d st) hL
  rw [← any_not]
  obtain ⟨v, hv⟩ : ∃ v, v = L.any fun x => !amt x := ⟨_, rfl⟩
  rw [← hv] at c ⊢
  clear hv
  refine H.season_amounts.pure hmix rfl rfl ?_
  repeat' (first 
   | (with_reducible refine Rets.xcall (c _) ?_)
   | (simp -dsimp -implicitDefEqProofs [*]))
theorem points1_spec (a b : Int) (st : Store) : Rets P F.season_Points_1 [.int a, .int b] st (.int (cmpI b a)) := by
  refine H.season_Points_1.pure hmix rfl rfl ?_
  repeat' (first 
   | (with_reducible refine Rets.xcall (cmp_spec _ _ _) ?_)
   | (simp -dsimp -implicitDefEqProofs [*]))
theorem fallB_drop {L : List Int} {i : Nat} (h : i + 1 < L.length) : fallB (L.drop i) = (decide (L[i + 1] ≤ L[i]) && fallB (L.drop (i + 1))) := by
  rw [List.drop_eq_getElem_cons (show i < L.length by omega), List.drop_eq_getElem_cons h]
  rfl
theorem fallB_not {L : List Int} {i : Nat} (h : i + 1 < L.length) (hlt : L[i] < L[i + 1]) : fallB L = false := by
  cases e : fallB L with
  | false => rfl
  | true =>
    have := List.pairwise_iff_getElem.1 (fallB_iff.1 e) i (i + 1) (by omega) h (by omega)
    omega
theorem sorted_spec (t : Bool) (L : List Int) (hL : L.length ≤ 100000) (st : Store) : Rets P F.slices_IsSortedFunc__Lint_int [intLst t L, .func (.func F.season_Points_1) [] []] st (.bool (fallB L)) := by
  refine H.slices_IsSortedFunc__Lint_int.view hmix rfl rfl ?_
  cases L with
  | nil =>
    repeat' (simp -dsimp -implicitDefEqProofs [*])
    refine xloop_for (fun _ : Unit => [(5, .int (-1))]) (fun _ => st) (fun _ => True) (fun _ => 0) () trivial (by simp; exact wrap_in (by omega) (by omega)) (.refl _) ?_
    rintro - -
    repeat' (simp -dsimp -implicitDefEqProofs [*])
    exact .same ⟨rfl, rfl⟩
  | cons x0 L0 =>
    obtain ⟨L, hLL⟩ : ∃ L, L = x0 :: L0 := ⟨_, rfl⟩
    have hp : 0 < L.length := by rw [hLL]; simp
    rw [← hLL] at hL ⊢
    clear hLL
    have w0 : IntKind.i64.wrap ((L.length : Int) - 1) = ((L.length - 1 : Nat) : Int) := by rw [wrap_in (by omega) (by omega)]; omega
    obtain ⟨n0, hn0⟩ : ∃ n, n = L.length - 1 := ⟨_, rfl⟩
    rw [← hn0] at w0
    have hd : Hid (fallB (L.drop n0) = true) := ⟨by
      rw [List.drop_eq_getElem_cons (show n0 < L.length by omega), List.drop_of_length_le (by omega)]; rfl⟩
    have hl0 : n0 < L.length := by omega
    clear hn0
    repeat' (simp -dsimp -implicitDefEqProofs [*])
    refine xloop_for (fun n : Nat => [(0, intLst t L), (1, .func (.func F.season_Points_1) [] []), (5, .int n)]) (fun _ => st) (fun n => n < L.length ∧ Hid (fallB (L.drop n) = true)) (fun n => n) n0 ⟨hl0, hd⟩ (by simp) (.refl _) ?_
    clear w0 hd hl0
    rintro n ⟨hn, he⟩
    cases n with
    | zero =>
      have e : Hid (fallB L = true) := ⟨by simpa using he.out⟩
      rw [e.out]
      repeat' (simp -dsimp -implicitDefEqProofs [*])
      exact .same ⟨rfl, rfl⟩
    | succ n =>
      have w1 : IntKind.i64.wrap (n : Int) = (n : Int) := wrap_in (by omega) (by omega)
      have hnl : n < L.length := by omega
      obtain ⟨m, hm⟩ : ∃ m, m = n + 1 := ⟨_, rfl⟩
      have hpos : (0 : Int) < m := by omega
      by_cases hlt : L[n] < L[n + 1]
      · have e : Hid (fallB L = false) := ⟨fallB_not hn hlt⟩
        rw [e.out]
        have c : cmpI L[n] L[n + 1] = -1 := by unfold cmpI; rw [if_pos hlt]
        have c1 := points1_spec L[n + 1] L[n]
        rw [c] at c1
        clear c hlt he
        repeat' (first 
         | (with_reducible refine Rets.xcall (c1 _) ?_)
         | (with_reducible refine DrawLate.intro [] ?_)
         | ((with_reducible refine and_keep ?_ fun hk => ?_); omega)
         | (simp -dsimp -implicitDefEqProofs [*]))
        exact .same ⟨rfl, rfl⟩
      · have he2 : Hid (fallB (L.drop n) = true) := ⟨by rw [fallB_drop hn, he.out, decide_eq_true (by omega)]; rfl⟩
        have hr0 : ¬ cmpI L[n] L[n + 1] < 0 := by unfold cmpI; rw [if_neg hlt]; split <;> omega
        obtain ⟨r, hr⟩ : ∃ r, r = cmpI L[n] L[n + 1] := ⟨_, rfl⟩
        have c1 := points1_spec L[n + 1] L[n]
        rw [← hr] at c1 hr0
        clear hlt he hr
        repeat' (first 
         | (with_reducible refine Rets.xcall (c1 _) ?_)
         | (with_reducible refine DrawLate.intro [] ?_)
         | ((with_reducible refine and_keep ?_ fun hk => ?_); omega)
         | (simp -dsimp -implicitDefEqProofs [*]))
        exact Next.intro n ⟨hnl, he2⟩ (by omega) (by simp) (by repeat' (first | exact StLe.refl _ | (refine StLe_cons (by simp [*]; done) ?_) | (refine StLe_fresh (by simp [*]; done) ?_)))
end Go.Proofs.Ytgjgcflgjpigpaa
/- Sorting Recs. -/
namespace Go.Proofs.Ytgjgcflgjpigpaa
open Go.Pv
set_option maxRecDepth 100000
namespace SortRec
@[simp] theorem own_sub {l : List Rec} {i : Nat} {C : List PV} (h : i < l.length) : sub (Rec.row l ++ C) (i * 7) 7 = some (l[i]).enc := Go.Pv.own_sub Rec.len h
@[simp] theorem own_set {l : List Rec} {i : Nat} {x : Rec} {C : List PV} (h : i < l.length) : setCells (Rec.row l ++ C) (i * 7) x.enc = Rec.row (l.set i x) ++ C := Go.Pv.own_set Rec.len h
abbrev cmpF : PV := .func (.func F.season_Records_1) [] []
theorem by_spec (x y : Rec) (st : Store) : Rets P F.season_Records_1 [x.pv, y.pv] st (.int (cmpI x.at_ y.at_)) := by
  refine H.season_Records_1.pure hmix rfl rfl ?_
  repeat' (first 
   | (with_reducible refine Fresh.intro fun b hb => ?_) <;> (try simp -dsimp -implicitDefEqProofs [*] at hb)
   | (with_reducible refine Rets.xcall (cmp_spec _ _ _) ?_)
   | (simp -dsimp -implicitDefEqProofs [*]))
abbrev rowO (l : List Rec) (C : List PV) : PObj := .arr T.apiRecord (Rec.row l ++ C)
/-- Two elements change places. -/
def exch (l : List Rec) (i j : Nat) (hi : i < l.length) (hj : j < l.length) : List Rec := (l.set i l[j]).set j l[i]
theorem swap2 {l P Q R : List Rec} {x y : Rec} {i j : Nat} (hl : l = P ++ x :: (Q ++ y :: R)) (hi : P.length = i) (hj : i + 1 + Q.length = j) :
    (∀ h : i < l.length, l[i] = x) ∧ (∀ h : j < l.length, l[j] = y) ∧ (l.set i y).set j x = P ++ y :: (Q ++ x :: R) ∧ (l.set j x).set i y = P ++ y :: (Q ++ x :: R) ∧ i < l.length ∧ j < l.length := by
  subst hl; subst hi; subst hj
  have e2 : P.length + 1 + Q.length - P.length = Q.length + 1 := by omega
  have e3 : ¬ P.length + 1 + Q.length < P.length := by omega
  refine ⟨fun h => by simp, fun h => ?_, ?_, ?_, by simp, by simp; omega⟩
  · rw [List.getElem_append_right (by omega)]
    simp [e2]
  · simp [List.set_append, e2, e3]
  · simp [List.set_append, e2, e3]
theorem cut_at {A : List Rec} {i : Nat} (h : i < A.length) : ∃ a, A.drop i = a :: A.drop (i + 1) ∧ A.take (i + 1) = A.take i ++ [a] := ⟨A[i], List.drop_eq_getElem_cons h, List.take_succ_eq_append_getElem h⟩
theorem cut_len {A : List Rec} {k : Nat} (h : k ≤ A.length) : ∃ U V, A = U ++ V ∧ U.length = k ∧ V.length = A.length - k := ⟨A.take k, A.drop k, (List.take_append_drop k A).symm, by simp [h], by simp⟩
abbrev key (e : Rec) : Int := e.at_
@[simp] theorem cmpI_lt (a b : Int) : cmpI a b < 0 ↔ a < b := by unfold cmpI; split <;> (try split) <;> omega
@[simp] theorem cmpI_ge (a b : Int) : 0 ≤ cmpI a b ↔ b ≤ a := by unfold cmpI; split <;> (try split) <;> omega
theorem at_mid {l P R : List Rec} {z : Rec} {i : Nat} (hl : l = P ++ z :: R) (hi : P.length = i) : i < l.length ∧ ∀ h : i < l.length, l[i] = z := by
  subst hl; subst hi
  exact ⟨by simp, fun h => by simp⟩
/-- An element on its way into a list that is in order. -/
def InsI (X U R : List Rec) (x : Rec) (N a j : Nat) (l : List Rec) : Prop := l.length = N ∧ ∃ P Q, U = P ++ Q ∧ l = X ++ P ++ x :: (Q ++ R) ∧ a + P.length = j ∧ ∀ q ∈ Q, key x < key q
theorem ins_step {X U R : List Rec} {x : Rec} {N a j : Nat} {l : List Rec} (h : InsI X U R x N a j l) (hX : X.length = a) (hU : Srtd key U) (hj : a < j) : ∃ v l3, (∀ h : j < l.length, l[j] = x) ∧ (∀ h : j - 1 < l.length, l[j - 1] = v) ∧ (l.set j v).set (j - 1) x = l3 ∧ l3.length = N ∧ j < N ∧
    (key x < key v → InsI X U R x N a (j - 1) l3) ∧ (key v ≤ key x → l = X ++ srt key (U ++ [x]) ++ R) := by
  obtain ⟨hN, P, Q, h1, h2, h3, h4⟩ := h
  rcases List.eq_nil_or_concat P with rfl | ⟨P', v, rfl⟩
  · simp at h3; omega
  rw [List.concat_eq_append] at *
  simp at h3
  obtain ⟨e1, e2, e3, e4, e5, e6⟩ := swap2 (l := l) (P := X ++ P') (x := v) (Q := []) (y := x) (R := Q ++ R) (i := j - 1) (j := j) (by rw [h2]; simp) (by simp; omega) (by simp; omega)
  have hlen : ((l.set j v).set (j - 1) x).length = N := by simp [hN]
  refine ⟨v, _, e2, e1, rfl, hlen, by omega, fun hv => ⟨hlen, P', v :: Q, by rw [h1]; simp, by rw [e4]; simp, by omega, fun q hq => ?_⟩, fun hv => ?_⟩
  · rcases List.mem_cons.1 hq with rfl | hq
    · exact hv
    · exact h4 q hq
  · rw [h2, h1, ← srt_snoc (h1 ▸ hU) (fun p hp => ?_) h4]
    · simp
    · rcases List.mem_append.1 hp with hp | hp
      · have := (h1 ▸ hU : Srtd key (P' ++ [v] ++ Q)).left.le hp (b := v) (by simp)
        omega
      · simp at hp; subst hp; exact hv
theorem ins_end {X U R : List Rec} {x : Rec} {N a : Nat} {l : List Rec} (h : InsI X U R x N a a l) (hU : Srtd key U) : l = X ++ srt key (U ++ [x]) ++ R := by
  obtain ⟨hN, P, Q, h1, h2, h3, h4⟩ := h
  have : P = [] := List.length_eq_zero_iff.1 (by omega)
  subst this
  rw [h2, h1, ← srt_snoc (h1 ▸ hU) (by simp) h4]
  simp
theorem srt_more {T : List Rec} {x : Rec} : srt key (srt key T ++ [x]) = srt key (T ++ [x]) := srt_congr (Stb.app (srt_stb T).symm (.refl _))
theorem insertion_spec {l l2 X L Y : List Rec} {C : List PV} {b cap N a z : Nat} (hN : l.length = N) (hN2 : N ≤ 100000) (hl : l = X ++ L ++ Y) (hl2 : l2 = X ++ srt key L ++ Y) (hX : X.length = a) (hz : a + L.length = z) (st : Store) :
    Does P F.slices_insertionSortCmpFunc__apiRecord [.own b 0 N cap, .int (a : Nat), .int (z : Nat), cmpF] ((b, rowO l C) :: st) (.tuple []) ((b, rowO l2 C) :: st) := by
  have hzN : z ≤ N := by
    have := congrArg List.length hl
    simp at this
    omega
  have h0 : Hid (l = X ++ srt key (L.take (a + 1 - a)) ++ (L.drop (a + 1 - a) ++ Y)) := by
    constructor
    rw [hl, show a + 1 - a = 1 by omega]
    rcases L with _ | ⟨x, L⟩
    · simp [srt]
    · simp [srt, ordIns]
  have h2 : Hid (l2 = X ++ srt key L ++ Y) := ⟨hl2⟩
  obtain ⟨a1, ha1⟩ : ∃ a1, a1 = a + 1 := ⟨_, rfl⟩
  have hwa : IntKind.i64.wrap ((a : Int) + 1) = (a1 : Int) := by rw [ha1, wrap_succ (by omega)]; omega
  rw [← ha1] at h0
  have haz : a1 = a + 1 := ha1
  clear hl hl2 ha1
  refine H.slices_insertionSortCmpFunc__apiRecord.view hmix rfl rfl ?_
  clear haz
  repeat' (simp -dsimp -implicitDefEqProofs [*])
  have haz : a1 = a + 1 := by have := wrap_succ (n := a) (by omega); omega
  refine xloop_for (fun s : Nat × List Rec => [(0, .own b 0 N cap), (1, .int (a : Nat)), (2, .int (z : Nat)), (3, cmpF), (8, .int (s.1 : Nat))]) (fun s => (b, rowO s.2 C) :: st)
    (fun s => a1 ≤ s.1 ∧ (s.1 ≤ z ∨ s.1 = a1) ∧ s.2.length = N ∧ s.2 = X ++ srt key (L.take (s.1 - a)) ++ (L.drop (s.1 - a) ++ Y)) (fun s => z - s.1) (a1, l) ⟨Nat.le_refl _, .inr rfl, hN, h0.out⟩ (by simp) (by simp) ?_
  clear h0 hwa
  rintro ⟨i, l'⟩ ⟨hi1, hi2, hlen', hl'⟩
  simp only at hi1 hi2 hlen' hl'
  by_cases hiz : i < z
  · obtain ⟨x, c1, c2⟩ := cut_at (A := L) (i := i - a) (by omega)
    obtain ⟨i2, hi3⟩ : ∃ i2, i2 = i + 1 := ⟨_, rfl⟩
    have hwi : IntKind.i64.wrap ((i : Int) + 1) = (i2 : Int) := by rw [hi3, wrap_succ (by omega)]; omega
    have hi4 : i - a + 1 = i2 - a := by omega
    rw [hi4] at c1 c2
    have hU := srt_srtd (key := key) (L.take (i - a))
    have hlU : (srt key (L.take (i - a))).length = i - a := by simp; omega
    have hI : InsI X (srt key (L.take (i - a))) (L.drop (i2 - a) ++ Y) x N a i l' := ⟨hlen', srt key (L.take (i - a)), [], by simp, by rw [hl', c1]; simp, by omega, by simp⟩
    have hfin : ∀ l3 : List Rec, l3 = X ++ srt key (srt key (L.take (i - a)) ++ [x]) ++ (L.drop (i2 - a) ++ Y) → l3 = X ++ srt key (L.take (i2 - a)) ++ (L.drop (i2 - a) ++ Y) := fun l3 h => by rw [h, srt_more, c2]
    generalize srt key (L.take (i - a)) = U at hI hfin hU
    have hii : i < i2 ∧ i2 ≤ z ∧ a1 ≤ i2 ∧ a < i := by omega
    clear hl' c1 c2 hi3 hi4 hlU hlen' haz hi2
    repeat' (simp -dsimp -implicitDefEqProofs [*])
    refine xloop_for (fun s : Nat × List Rec => [(0, .own b 0 N cap), (1, .int (a : Nat)), (2, .int (z : Nat)), (3, cmpF), (8, .int (i : Nat)), (9, .int (s.1 : Nat))]) (fun s => (b, rowO s.2 C) :: st)
      (fun s => a ≤ s.1 ∧ InsI X U (L.drop (i2 - a) ++ Y) x N a s.1 s.2) (fun s => s.1) (i, l') ⟨by simp only; omega, hI⟩ (by simp) (by simp) ?_
    rintro ⟨j, l''⟩ ⟨hj1, hJ⟩
    simp only at hj1 hJ
    have hlen2 := hJ.1
    by_cases hj : a < j
    · obtain ⟨v, l3, s1, s2, s3, s4, s5, s6, s7⟩ := ins_step hJ hX hU hj
      obtain ⟨q, hq⟩ : ∃ q, q = j - 1 := ⟨_, rfl⟩
      have hwq : IntKind.i64.wrap ((j : Int) - 1) = (q : Int) := by rw [wrap_in (by omega) (by omega)]; omega
      rw [← hq] at s2 s3 s6
      have hqj : q < j ∧ a ≤ q ∧ q < N := by omega
      clear hq hX hI hJ hz
      by_cases hxv : x.at_ < v.at_
      · replace s6 := s6 hxv
        clear s7 hfin
        repeat' (simp -dsimp -implicitDefEqProofs [*])
        refine DrawLate.intro [] ?_
        repeat' (first 
         | (with_reducible refine Rets.xcall (by_spec _ _ _) ?_)
         | (simp -dsimp -implicitDefEqProofs [*]))
        refine DrawLate.intro [b] ?_
        repeat' (first 
         | ((with_reducible refine and_keep ?_ fun hk => ?_); omega)
         | (simp -dsimp -implicitDefEqProofs [*]))
        exact Next.intro (q, l3) ⟨hqj.2.1, s6⟩ (by simp only; omega) (by simp) (by repeat' (first | exact StLe.refl _ | (refine StLe_cons (by simp [*]; done) ?_) | (refine StLe_fresh (by simp [*]; done) ?_)))
      · have s8 : Hid (l'' = X ++ srt key (L.take (i2 - a)) ++ (L.drop (i2 - a) ++ Y)) := ⟨hfin l'' (s7 (Int.not_lt.1 hxv))⟩
        clear s6 s7 s3 hfin
        repeat' (first 
         | (with_reducible refine Rets.xcall (by_spec _ _ _) ?_)
         | (with_reducible refine DrawLate.intro [] ?_)
         | (simp -dsimp -implicitDefEqProofs [*]))
        exact Next.intro (i2, l'') ⟨hii.2.2.1, .inl hii.2.1, hlen2, s8.out⟩ (by simp only; omega) (by simp) (by repeat' (first | exact StLe.refl _ | (refine StLe_cons (by simp [*]; done) ?_) | (refine StLe_fresh (by simp [*]; done) ?_)))
    · have hja : j = a := by omega
      subst hja
      have s8 : Hid (l'' = X ++ srt key (L.take (i2 - j)) ++ (L.drop (i2 - j) ++ Y)) := ⟨hfin l'' (ins_end hJ hU)⟩
      clear hfin hI hJ
      repeat' (first 
       | (with_reducible refine DrawLate.intro [] ?_)
       | (simp -dsimp -implicitDefEqProofs [*]))
      exact Next.intro (i2, l'') ⟨hii.2.2.1, .inl hii.2.1, hlen2, s8.out⟩ (by simp only; omega) (by simp) (by repeat' (first | exact StLe.refl _ | (refine StLe_cons (by simp [*]; done) ?_) | (refine StLe_fresh (by simp [*]; done) ?_)))
  · have e : l' = l2 := by rw [hl', h2.out, List.take_of_length_le (by omega), List.drop_of_length_le (by omega)]; simp
    clear hl' hX hz h2
    subst e
    repeat' (simp -dsimp -implicitDefEqProofs [*])
    exact .drop (StLe.refl _) ⟨rfl, rfl⟩
end SortRec
end Go.Proofs.Ytgjgcflgjpigpaa
