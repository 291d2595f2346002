/- The polynomial through some points, by the law. -/
import Derived.Test.YtmgpkcpalpejcaaDoorS34ZL
namespace Go.Proofs.YtmgpkcpalpejcaaDoor
open Go.Pv Go.Pv.Sha Go.Pv.Ip
set_option maxRecDepth 100000
set_option maxHeartbeats 4000000
structure Point where
  X : Int
  Y : Int
  deriving DecidableEq, Inhabited
def Point.enc (x : Point) : List PV := [.int x.X, .int x.Y]
abbrev Point.pv (x : Point) : PV := .agg x.enc
@[simp] theorem Point.len (x : Point) : x.enc.length = 2 := rfl
@[simp] theorem Point.subAll (x : Point) : sub x.enc 0 2 = some x.enc := rfl
@[simp] theorem Point.get0 (x : Point) : x.enc[0]? = some (.int x.X) := rfl
@[simp] theorem Point.getE0 (x : Point) (h : 0 < x.enc.length) : x.enc[0]'h = .int x.X := rfl
@[simp] theorem Point.set0 (x : Point) (v : Int) : List.set x.enc 0 (.int v) = (Point.mk v x.Y).enc := rfl
@[simp] theorem Point.get1 (x : Point) : x.enc[1]? = some (.int x.Y) := rfl
@[simp] theorem Point.getE1 (x : Point) (h : 1 < x.enc.length) : x.enc[1]'h = .int x.Y := rfl
@[simp] theorem Point.set1 (x : Point) (v : Int) : List.set x.enc 1 (.int v) = (Point.mk x.X v).enc := rfl
@[simp] theorem Point.fz (b : Nat) (o : PObj) (k : Nat) (x : Point) : fzps b o k x.enc = x.enc := rfl
theorem Point.fold (v0 v1 : Int) : [PV.int v0, PV.int v1] = (Point.mk v0 v1).enc := rfl
@[simp] theorem Point.fill (x y : Point) : setCells x.enc 0 y.enc = y.enc := rfl
@[simp] theorem Point.eq (x y : Point) : eqCells [.int, .int] x.enc y.enc = some (decide (x = y)) := by
  simp [Point.enc]
  cases x; cases y; simp [Point.mk.injEq]
@[simp] theorem Point.key (x : Point) : PV.vals? x.enc = some [.int .i64 x.X, .int .i64 x.Y] := rfl
def Point.row (l : List Point) : List PV := l.flatMap Point.enc
abbrev Point.lst (t : Bool) (l : List Point) : PV := .list t (Point.row l) l.length
@[simp] theorem Point.row_len (l : List Point) : (Point.row l).length = l.length * 2 := flat_length Point.enc 2 Point.len l
@[simp] theorem Point.row_nil : Point.row [] = [] := rfl
@[simp] theorem Point.row_cons (x : Point) (l : List Point) : Point.row (x :: l) = x.enc ++ Point.row l := rfl
theorem Point.row_append (l m : List Point) : Point.row (l ++ m) = Point.row l ++ Point.row m := by simp [Point.row]
@[simp] theorem Point.row_eq_nil (l : List Point) : Point.row l = [] ↔ l = [] := by
  constructor
  · intro h
    have := congrArg List.length h
    rw [Point.row_len] at this
    cases l with
    | nil => rfl
    | cons => simp at this
  · rintro rfl; rfl
@[simp] theorem Point.row_sub (l : List Point) (i : Nat) (h : i < l.length) : sub (Point.row l) (i * 2) 2 = some (l[i]).enc := flat_sub Point.enc 2 Point.len l i h
theorem Point.row_drop (l : List Point) (i : Nat) : (Point.row l).drop (i * 2) = Point.row (l.drop i) := flat_drop Point.enc 2 Point.len l i
theorem Point.row_take (l : List Point) (i : Nat) : (Point.row l).take (i * 2) = Point.row (l.take i) := flat_take Point.enc 2 Point.len l i
@[simp] theorem Point.row_getE0 (l : List Point) (i : Nat) (h : i * 2 < (Point.row l).length) : (Point.row l)[i * 2]'h = .int (l[i]'(by rw [Point.row_len] at h; omega)).X := by
  have hl : i < l.length := by rw [Point.row_len] at h; omega
  have := flat_get Point.enc 2 Point.len l i 0 hl (by omega)
  have h2 : (Point.row l)[i * 2]? = some (.int l[i].X) := this
  rw [List.getElem?_eq_getElem h] at h2
  exact Option.some.inj h2
@[simp] theorem Point.row_get0 (l : List Point) (i : Nat) (h : i < l.length) : (Point.row l)[i * 2]? = some (.int l[i].X) := flat_get Point.enc 2 Point.len l i 0 h (by omega)
@[simp] theorem Point.row_getE1 (l : List Point) (i : Nat) (h : i * 2 + 1 < (Point.row l).length) : (Point.row l)[i * 2 + 1]'h = .int (l[i]'(by rw [Point.row_len] at h; omega)).Y := by
  have hl : i < l.length := by rw [Point.row_len] at h; omega
  have := flat_get Point.enc 2 Point.len l i 1 hl (by omega)
  have h2 : (Point.row l)[i * 2 + 1]? = some (.int l[i].Y) := this
  rw [List.getElem?_eq_getElem h] at h2
  exact Option.some.inj h2
@[simp] theorem Point.row_get1 (l : List Point) (i : Nat) (h : i < l.length) : (Point.row l)[i * 2 + 1]? = some (.int l[i].Y) := flat_get Point.enc 2 Point.len l i 1 h (by omega)
theorem Point.row_set (l : List Point) (i : Nat) (x : Point) (h : i < l.length) : setCells (Point.row l) (i * 2) x.enc = Point.row (l.set i x) := flat_set Point.enc 2 Point.len l i x h
theorem Point.row_fz (b : Nat) (o : PObj) (k : Nat) (l : List Point) : fzps b o k (Point.row l) = Point.row l := flat_fz Point.enc Point.fz b o k l
attribute [simp] Point.row_fz

def ptsL (l : List Point) : List (Int × Int) := l.map fun p => (p.X, p.Y)
theorem ptsL_get {l : List Point} {i : Nat} (h : i < l.length) : (ptsL l).getD i (0, 0) = (l[i].X, l[i].Y) := by
  simp [ptsL, List.getD_eq_getElem?_getD, h]
def OwnInts (st : Store) (L : List Int) : PEnd → Store → Prop := fun e s => ∃ b, snew st b ∧ e = .ret (.own b 0 L.length L.length) ∧ s = (b, .arr T.int (intRow L)) :: st
theorem intRow_set (l : List Int) (i : Nat) (v : Int) : (intRow l).set i (.int v) = intRow (l.set i v) := by simp [intRow, List.map_set]
theorem intRow_zeros (n : Nat) : List.replicate n (PV.int 0) = intRow (List.replicate n 0) := by simp [intRow]
theorem getD_of {l : List Int} {i : Nat} (h : i < l.length) : l.getD i 0 = l[i] := by simp [List.getD_eq_getElem?_getD, h]
theorem pair_of {α β : Type} (x : α × β) : ∃ a b, x = (a, b) := ⟨x.1, x.2, rfl⟩
theorem inv_ex {a b : Int} : ∃ v, Hid (invF ((a - b + Qi) % Qi) = v) ∧ (0 ≤ v ∧ v < Qi) ∧ ∀ st, Rets P F.podiumlaw34_inverse [.int ((a - b) % 1073741789)] st (.int v) :=
  ⟨_, ⟨rfl⟩, invF_in _, fun st => by
    have h := inverse_spec ((a - b + Qi) % Qi) (mod_in _) st
    have e : (a - b + Qi) % Qi = (a - b) % 1073741789 := Int.add_emod_right _ _
    rw [e] at h ⊢
    exact h⟩
theorem next_step {poly : List Int} {X : Int} {j : Nat} (hjl : j < poly.length) (lin : ∀ c ∈ poly, 0 ≤ c ∧ c < Qi) (hX : 0 ≤ X ∧ X ≤ 6) :
    ∃ (c a1 v1 : Int) (R1 : List PV) (a2 v2 : Int) (N2 : List Int), Hid (nextL poly X (j + 1) = N2) ∧ (intRow poly)[j]? = some (.int c) ∧ (intRow (nextL poly X j))[j + 1]? = some (.int a1) ∧ IntKind.i64.wrap (a1 + c) = a1 + c ∧ (a1 + c).tmod 1073741789 = v1 ∧ IntKind.i64.wrap v1 = v1 ∧
      (intRow (nextL poly X j)).set (j + 1) (.int v1) = R1 ∧ R1[j]? = some (.int a2) ∧ R1.length = poly.length + 1 ∧ IntKind.i64.wrap (1073741789 - X) = 1073741789 - X ∧ IntKind.i64.wrap (c * (1073741789 - X)) = c * (1073741789 - X) ∧
      IntKind.i64.wrap (a2 + c * (1073741789 - X)) = a2 + c * (1073741789 - X) ∧ (a2 + c * (1073741789 - X)).tmod 1073741789 = v2 ∧ IntKind.i64.wrap v2 = v2 ∧ R1.set j (.int v2) = intRow N2 := by
  have nlen := nextL_len poly X j
  have nin := nextL_in poly X j
  have eN : nextL poly X (j + 1) = ((nextL poly X j).set (j + 1) (((nextL poly X j).getD (j + 1) 0 + poly.getD j 0) % Qi)).set j ((((nextL poly X j).set (j + 1) (((nextL poly X j).getD (j + 1) 0 + poly.getD j 0) % Qi)).getD j 0 + poly.getD j 0 * (Qi - X)) % Qi) := by rw [nextL]
  obtain ⟨N, hN⟩ : ∃ N, nextL poly X j = N := ⟨_, rfl⟩
  rw [hN] at eN nlen nin ⊢
  obtain ⟨N2, hN2⟩ : ∃ N2, nextL poly X (j + 1) = N2 := ⟨_, rfl⟩
  have kN2 : Hid (nextL poly X (j + 1) = N2) := ⟨hN2⟩
  rw [hN2] at eN
  clear hN hN2
  have r0 := lin _ (List.getElem_mem hjl)
  have r1 := nin _ (List.getElem_mem (show j + 1 < N.length by omega))
  rw [getD_of hjl, getD_of (show j + 1 < N.length by omega)] at eN
  have q0 := intRow_get poly j hjl
  have q1 := intRow_get N (j + 1) (by omega)
  generalize poly[j] = c at *
  generalize N[j + 1] = a1 at *
  have r2 := in_set nin (j + 1) (a1 + c)
  have m1 := mod_in (a1 + c)
  have t1 := tmodE (a1 + c) (by omega)
  have w1 : IntKind.i64.wrap (a1 + c) = a1 + c := wrap_in (by omega) (by unfold Qi at *; omega)
  have w2 : IntKind.i64.wrap ((a1 + c) % Qi) = (a1 + c) % Qi := wrap_in (by omega) (by unfold Qi at *; omega)
  generalize (a1 + c) % Qi = v1 at *
  have n1 : (N.set (j + 1) v1).length = poly.length + 1 := by rw [List.length_set]; omega
  have s1 := intRow_set N (j + 1) v1
  generalize N.set (j + 1) v1 = N1 at *
  have q2 := intRow_get N1 j (by omega)
  have r3 := r2 _ (List.getElem_mem (show j < N1.length by omega))
  rw [getD_of (show j < N1.length by omega)] at eN
  have s2 := intRow_set N1 j
  generalize N1[j] = a2 at *
  have mq := mulQ ⟨r0.1, by omega⟩ (show 0 ≤ Qi - X ∧ Qi - X ≤ Qi by unfold Qi; omega)
  have m2 : -9223372036854775808 ≤ (a2 + c * (Qi - X)) % Qi ∧ (a2 + c * (Qi - X)) % Qi ≤ 9223372036854775807 := by have := mod_in (a2 + c * (Qi - X)); unfold Qi at *; omega
  have s3 := s2 ((a2 + c * (Qi - X)) % Qi)
  rw [← eN] at s3
  clear s2 eN
  have t2 := tmodE (a2 + c * (Qi - X)) (by omega)
  have hq : Qi = 1073741789 := rfl
  rw [hq] at mq r3
  have w3 : IntKind.i64.wrap (1073741789 - X) = 1073741789 - X := wrap_in (by omega) (by omega)
  have w4 : IntKind.i64.wrap (c * (1073741789 - X)) = c * (1073741789 - X) := wrap_in (by omega) (by omega)
  have w5 : IntKind.i64.wrap (a2 + c * (1073741789 - X)) = a2 + c * (1073741789 - X) := wrap_in (by omega) (by omega)
  have w6 : IntKind.i64.wrap ((a2 + c * (Qi - X)) % Qi) = (a2 + c * (Qi - X)) % Qi := wrap_in m2.1 m2.2
  exact ⟨c, a1, v1, intRow N1, a2, (a2 + c * (Qi - X)) % Qi, N2, kN2, q0, q1, w1, t1, w2, s1, q2, by rw [intRow_len, n1, Nat.mul_one], w3, w4, w5, t2, w6, s3⟩
theorem add_step {OL poly : List Int} {sc : Int} {j : Nat} (hjl : j < poly.length) (lin : ∀ c ∈ poly, 0 ≤ c ∧ c < Qi) (oin : ∀ c ∈ OL, 0 ≤ c ∧ c < Qi) (hol : j < OL.length) (hs : 0 ≤ sc ∧ sc < Qi) :
    ∃ (c a1 v1 : Int) (N2 : List Int), Hid (addS OL poly sc (j + 1) = N2) ∧ (intRow poly)[j]? = some (.int c) ∧ (intRow (addS OL poly sc j))[j]? = some (.int a1) ∧ IntKind.i64.wrap (c * sc) = c * sc ∧ IntKind.i64.wrap (a1 + c * sc) = a1 + c * sc ∧
      (a1 + c * sc).tmod 1073741789 = v1 ∧ IntKind.i64.wrap v1 = v1 ∧ (intRow (addS OL poly sc j)).set j (.int v1) = intRow N2 := by
  have nlen := addS_len OL poly sc j
  have nin := addS_in OL poly sc oin j
  have eN : addS OL poly sc (j + 1) = (addS OL poly sc j).set j (((addS OL poly sc j).getD j 0 + poly.getD j 0 * sc) % Qi) := by rw [addS]
  obtain ⟨N, hN⟩ : ∃ N, addS OL poly sc j = N := ⟨_, rfl⟩
  rw [hN] at eN nlen nin ⊢
  obtain ⟨N2, hN2⟩ : ∃ N2, addS OL poly sc (j + 1) = N2 := ⟨_, rfl⟩
  have kN2 : Hid (addS OL poly sc (j + 1) = N2) := ⟨hN2⟩
  rw [hN2] at eN
  clear hN hN2
  have r0 := lin _ (List.getElem_mem hjl)
  have r1 := nin _ (List.getElem_mem (show j < N.length by omega))
  rw [getD_of hjl, getD_of (show j < N.length by omega)] at eN
  have q0 := intRow_get poly j hjl
  have q1 := intRow_get N j (by omega)
  have s2 := intRow_set N j
  generalize poly[j] = c at *
  generalize N[j] = a1 at *
  have mq := mulQ ⟨r0.1, by omega⟩ (show 0 ≤ sc ∧ sc ≤ Qi by omega)
  have m1 : -9223372036854775808 ≤ (a1 + c * sc) % Qi ∧ (a1 + c * sc) % Qi ≤ 9223372036854775807 := by have := mod_in (a1 + c * sc); unfold Qi at *; omega
  have hq : Qi = 1073741789 := rfl
  rw [hq] at r1
  have t1 := tmodE (a1 + c * sc) (by omega)
  have w0 : IntKind.i64.wrap (c * sc) = c * sc := wrap_in (by omega) (by omega)
  have w1 : IntKind.i64.wrap (a1 + c * sc) = a1 + c * sc := wrap_in (by omega) (by omega)
  have s3 := s2 ((a1 + c * sc) % Qi)
  rw [← eN] at s3
  exact ⟨c, a1, (a1 + c * sc) % Qi, N2, kN2, q0, q1, w0, w1, t1, wrap_in m1.1 m1.2, s3⟩
theorem through_spec (t : Bool) (l : List Point) (hg : Ip.Good (ptsL l)) (h1 : l.length ≤ 24) (st : Store) : PCalls P F.podiumlaw34_through [Point.lst t l] st (OwnInts st (Ip.through (ptsL l))) := by
  refine H.podiumlaw34_through.view hmix rfl rfl ?_
  have hz : (List.replicate l.length [PV.int 0]).flatten = intRow (List.replicate l.length 0) := by
    rw [← intRow_zeros, List.flatten_replicate_singleton]
  repeat' (first 
   | (with_reducible refine Fresh.intro fun b hb => ?_) <;> (try simp -dsimp -implicitDefEqProofs [*] at hb)
   | ((with_reducible refine and_keep ?_ fun hk => ?_); omega)
   | (simp -dsimp -implicitDefEqProofs [*]))
  revert b
  intro ob hob
  have hol : (outer (ptsL l) 0).length = l.length := by rw [outer_len]; simp [ptsL]
  refine xloop_for (fun i : Nat => [(3, .own ob 0 l.length l.length), (18, Point.lst t l), (19, .int l.length), (20, .int (i : Nat)), (0, Point.lst t l)]) (fun i => (ob, .arr T.int (intRow (outer (ptsL l) i))) :: st) (fun i => i ≤ l.length) (fun i => l.length - i) 0 (by omega) (by simp) (by simp [outer, ptsL]) ?_
  intro i hi
  have hlen : (ptsL l).length = l.length := by simp [ptsL]
  have holn : (intRow (outer (ptsL l) i)).length = l.length := by rw [intRow_len, outer_len, hlen, Nat.mul_one]
  by_cases hil : i < l.length
  · have hwi := wrap_succ (n := i) (by omega)
    have hpi := ptsL_get hil
    have gx := hg.x i (by omega)
    have gy := hg.y i (by omega)
    rw [hpi] at gx gy
    simp only at gx gy
    repeat' (first 
     | (with_reducible refine Fresh.intro fun b hb => ?_) <;> (try simp -dsimp -implicitDefEqProofs [*] at hb)
     | (with_reducible refine Lit.own (len := 1) fun b hb => ?_) <;> (try simp -dsimp -implicitDefEqProofs [*] at hb)
     | (simp -dsimp -implicitDefEqProofs [*]))
    revert b
    intro pb0 hpb0
    revert b
    intro pq hpq hpb0
    have hp0 : (inner (ptsL l) i 0).1 = [1] := rfl
    have hs0 : (inner (ptsL l) i 0).2 = l[i].Y := by rw [inner, hpi]
    refine xloop_for (fun y : Nat × Nat => [(0, Point.lst t l), (3, .own ob 0 l.length l.length), (4, .int (i : Nat)), (5, .ptr pq 0), (6, .own y.2 0 (inner (ptsL l) i y.1).1.length (inner (ptsL l) i y.1).1.length), (7, .int (inner (ptsL l) i y.1).2), (18, Point.lst t l), (19, .int l.length), (20, .int (i : Nat)), (28, Point.lst t l), (29, .int l.length), (30, .int (y.1 : Nat))])
      (fun y => (y.2, .arr T.int (intRow (inner (ptsL l) i y.1).1)) :: (pq, .arr T.apiPoint l[i].enc) :: (ob, .arr T.int (intRow (outer (ptsL l) i))) :: st) (fun y => y.1 ≤ l.length ∧ snew ((pq, .arr T.apiPoint l[i].enc) :: (ob, .arr T.int (intRow (outer (ptsL l) i))) :: st) y.2) (fun y => l.length - y.1) (0, pb0) ⟨by omega, hpb0⟩ (by simp [hp0, hs0]) (by simp only [hp0]; exact .refl _) ?_
    rintro ⟨k, pb⟩ ⟨hk, hpb⟩
    simp only at hk hpb
    obtain ⟨⟨p1, p2⟩, ⟨p3, p4⟩, p5⟩ := hpb
    have yin := inner_in (pts := ptsL l) (i := i) (by rw [hpi]; exact gy) k
    by_cases hkl : k < l.length
    · have hwk := wrap_succ (n := k) (by omega)
      by_cases hki : k = i
      · have e1 : inner (ptsL l) i (k + 1) = inner (ptsL l) i k := by rw [inner, if_pos hki]
        subst hki
        repeat' (first 
         | (with_reducible refine Fresh.intro fun b hb => ?_) <;> (try simp -dsimp -implicitDefEqProofs [*] at hb)
         | (simp -dsimp -implicitDefEqProofs [*]))
        exact Next.intro (k + 1, pb) ⟨by simp only; omega, ⟨⟨p1, p2⟩, ⟨p3, p4⟩, p5⟩⟩ (by simp only; omega) (by simp only [e1]; simp) (by simp only [e1]; exact (by repeat' (first | exact StLe.refl _ | (refine StLe_cons (by simp [*]; done) ?_) | (refine StLe_fresh (by simp [*]; done) ?_))))
      · have hki' : ¬ (k : Int) = i := by omega
        have hpk := ptsL_get hkl
        have e1 : inner (ptsL l) i (k + 1) = (nextL (inner (ptsL l) i k).1 l[k].X (inner (ptsL l) i k).1.length, (inner (ptsL l) i k).2 * invF ((l[i].X - l[k].X + Qi) % Qi) % Qi) := by rw [inner, if_neg hki, hpk, hpi]
        have gk := hg.x k (by omega)
        rw [hpk] at gk
        simp only at gk
        have lk : (inner (ptsL l) i k).1.length ≤ 25 := by rw [inner_len]; split <;> omega
        have lin := yin.1
        have sin := yin.2
        clear yin hp0 hs0
        have H0 := pair_of (inner (ptsL l) i k)
        obtain ⟨poly, sc, hN⟩ := H0
        have kN1 : Hid (inner (ptsL l) i (k + 1) = (nextL poly l[k].X poly.length, sc * invF ((l[i].X - l[k].X + Qi) % Qi) % Qi)) := ⟨by rw [e1, hN]⟩
        clear e1
        rw [hN] at lk lin sin
        simp only [hN]
        simp only at lk lin sin
        clear hN
        have hwm := wrap_succ (n := poly.length) (by omega)
        have htn : ((poly.length : Int) + 1).toNat = poly.length + 1 := by omega
        have hz2 : (List.replicate (poly.length + 1) [PV.int 0]).flatten = intRow (nextL poly l[k].X 0) := by
          rw [nextL, ← intRow_zeros, List.flatten_replicate_singleton]
        repeat' (first 
         | (with_reducible refine Fresh.intro fun b hb => ?_) <;> (try simp -dsimp -implicitDefEqProofs [*] at hb)
         | ((with_reducible refine and_keep ?_ fun hk => ?_); omega)
         | (simp -dsimp -implicitDefEqProofs [*]))
        revert b
        intro nb hnb
        revert b
        intro qb hqb hnb
        refine xloop_for (fun j : Nat => [(0, Point.lst t l), (3, .own ob 0 l.length l.length), (4, .int (i : Nat)), (5, .ptr pq 0), (6, .own pb 0 poly.length poly.length), (7, .int sc), (18, Point.lst t l), (19, .int l.length), (20, .int (i : Nat)), (28, Point.lst t l), (29, .int l.length), (30, .int (k : Nat)), (8, .int (k : Nat)), (9, .ptr qb 0), (10, .own nb 0 (poly.length + 1) (poly.length + 1)), (42, .own pb 0 poly.length poly.length), (43, .int poly.length), (44, .int (j : Nat))])
          (fun j => (nb, .arr T.int (intRow (nextL poly l[k].X j))) :: (qb, .arr T.apiPoint l[k].enc) :: (pb, .arr T.int (intRow poly)) :: (pq, .arr T.apiPoint l[i].enc) :: (ob, .arr T.int (intRow (outer (ptsL l) i))) :: st) (fun j => j ≤ poly.length) (fun j => poly.length - j) 0 (by omega) (by simp) (.refl _) ?_
        intro j hj
        have nlen : (intRow (nextL poly l[k].X j)).length = poly.length + 1 := by rw [intRow_len, nextL_len, Nat.mul_one]
        have plen : (intRow poly).length = poly.length := by rw [intRow_len, Nat.mul_one]
        have nlen' := nextL_len poly l[k].X j
        by_cases hjl : j < poly.length
        · have hwj := wrap_succ (n := j) (by omega)
          have htj : ((j : Int) + 1).toNat = j + 1 := by omega
          have H0 := next_step (X := l[k].X) hjl lin gk
          obtain ⟨c, a1, v1, R1, a2, v2, N2, kN2, q0, q1, w1, t1, w2, s1, q2, l2, w3, w4, w5, t2, w6, s2⟩ := H0
          clear nlen' hz2
          have E0 : ∀ h : j < (intRow poly).length, (intRow poly)[j]'h = .int c := fun h => by rw [List.getElem?_eq_getElem h] at q0; exact Option.some.inj q0
          have E1 : ∀ h : j + 1 < (intRow (nextL poly l[k].X j)).length, (intRow (nextL poly l[k].X j))[j + 1]'h = .int a1 := fun h => by rw [List.getElem?_eq_getElem h] at q1; exact Option.some.inj q1
          have E2 : ∀ h : j < R1.length, R1[j]'h = .int a2 := fun h => by rw [List.getElem?_eq_getElem h] at q2; exact Option.some.inj q2
          repeat' (first 
           | ((with_reducible refine and_keep ?_ fun hk => ?_); omega)
           | (simp -dsimp -implicitDefEqProofs [-intRow_get, -intRow_getE, *]))
          exact Next.intro (j + 1) (by omega) (by omega) (by simp) (by simp only [kN2.out]; exact (by repeat' (first | exact StLe.refl _ | (refine StLe_cons (by simp [*]; done) ?_) | (refine StLe_fresh (by simp [*]; done) ?_))))
        · have ej : j = poly.length := by omega
          subst ej
          have w1 : IntKind.i64.wrap (l[i].X - l[k].X) = l[i].X - l[k].X := wrap_in (by omega) (by omega)
          have w2 : IntKind.i64.wrap (l[i].X - l[k].X + 1073741789) = l[i].X - l[k].X + 1073741789 := wrap_in (by omega) (by omega)
          have m1 := mod_in (l[i].X - l[k].X + 1073741789)
          have t1 : (l[i].X - l[k].X + 1073741789).tmod 1073741789 = (l[i].X - l[k].X + 1073741789) % Qi := tmodE _ (by omega)
          have w3 : IntKind.i64.wrap ((l[i].X - l[k].X + 1073741789) % Qi) = (l[i].X - l[k].X + 1073741789) % Qi := wrap_in (by omega) (by unfold Qi at *; omega)
          have H0 := inv_ex (a := l[i].X) (b := l[k].X)
          obtain ⟨v, kv, iv, hinv⟩ := H0
          have kN3 : Hid (inner (ptsL l) i (k + 1) = (nextL poly l[k].X poly.length, sc * v % Qi)) := ⟨by rw [kN1.out, kv.out]⟩
          have H1 := mulmodE (x := sc) (y := v) ⟨sin.1, by omega⟩ ⟨iv.1, by omega⟩
          obtain ⟨g1, g2, g3⟩ := H1
          clear m1 iv kN1 kv
          repeat' (first 
           | (with_reducible refine Rets.xcall (hinv _) ?_)
           | (simp -dsimp -implicitDefEqProofs [*]))
          exact Next.intro (k + 1, nb) ⟨by simp only; omega, ⟨hnb.2.2.1, hnb.2.2.2.1, hnb.2.2.2.2⟩⟩ (by simp only; omega) (by simp only [kN3.out, nextL_len]; simp) (by simp only [kN3.out]; exact (by repeat' (first | exact StLe.refl _ | (refine StLe_cons (by simp [*]; done) ?_) | (refine StLe_fresh (by simp [*]; done) ?_))))
    · have ek : k = l.length := by omega
      subst ek
      have H0 := pair_of (inner (ptsL l) i l.length)
      obtain ⟨poly, sc, hN⟩ := H0
      have lk : poly.length = l.length := by
        have := inner_full (pts := ptsL l) (i := i) (by omega)
        rw [hlen, hN] at this
        exact this
      rw [hN] at yin
      have kN1 : Hid (outer (ptsL l) (i + 1) = addS (outer (ptsL l) i) poly sc poly.length) := ⟨by rw [outer, hlen, hN]⟩
      have oin := outer_in (ptsL l) i
      have oll := outer_len (ptsL l) i
      simp only [hN]
      simp only at yin
      clear hN hp0 hs0
      obtain ⟨lin, sin⟩ := yin
      obtain ⟨OL, hOL⟩ : ∃ OL, outer (ptsL l) i = OL := ⟨_, rfl⟩
      rw [hOL] at kN1 oin oll holn ⊢
      repeat' (simp -dsimp -implicitDefEqProofs [*])
      refine xloop_for (fun j : Nat => [(0, Point.lst t l), (3, .own ob 0 l.length l.length), (7, .int sc), (18, Point.lst t l), (19, .int l.length), (20, .int (i : Nat)), (89, .own pb 0 poly.length poly.length), (90, .int poly.length), (91, .int (j : Nat))])
        (fun j => (pb, .arr T.int (intRow poly)) :: (pq, .arr T.apiPoint l[i].enc) :: (ob, .arr T.int (intRow (addS OL poly sc j))) :: st) (fun j => j ≤ poly.length) (fun j => poly.length - j) 0 (by omega) (by simp [lk]) (.refl _) ?_
      intro j hj
      have plen : (intRow poly).length = poly.length := by rw [intRow_len, Nat.mul_one]
      have olen : (intRow (addS OL poly sc j)).length = l.length := by rw [intRow_len, addS_len, Nat.mul_one]; simpa using holn
      by_cases hjl : j < poly.length
      · have hwj := wrap_succ (n := j) (by omega)
        have H0 := add_step (OL := OL) (sc := sc) hjl lin oin (by rw [oll]; omega) sin
        obtain ⟨c, a1, v1, N2, kN2, q0, q1, w0, w1, t1, w2, s1⟩ := H0
        have E0 : ∀ h : j < (intRow poly).length, (intRow poly)[j]'h = .int c := fun h => by rw [List.getElem?_eq_getElem h] at q0; exact Option.some.inj q0
        have E1 : ∀ h : j < (intRow (addS OL poly sc j)).length, (intRow (addS OL poly sc j))[j]'h = .int a1 := fun h => by rw [List.getElem?_eq_getElem h] at q1; exact Option.some.inj q1
        have hjl2 : j < l.length := by omega
        clear lin oin
        repeat' (first 
         | ((with_reducible refine and_keep ?_ fun hk => ?_); omega)
         | (simp -dsimp -implicitDefEqProofs [-intRow_get, -intRow_getE, *]))
        exact Next.intro (j + 1) (by omega) (by omega) (by simp [lk]) (by simp only [kN2.out]; exact (by repeat' (first | exact StLe.refl _ | (refine StLe_cons (by simp [*]; done) ?_) | (refine StLe_fresh (by simp [*]; done) ?_))))
      · have ej : j = poly.length := by omega
        subst ej
        repeat' (simp -dsimp -implicitDefEqProofs [*])
        exact Next.intro (i + 1) (by omega) (by omega) (by simp) (by simp only [kN1.out, lk]; exact (by repeat' (first | exact StLe.refl _ | (refine StLe_cons (by simp [*]; done) ?_) | (refine StLe_fresh (by simp [*]; done) ?_))))
  · have e : i = l.length := by omega
    subst e
    repeat' (simp -dsimp -implicitDefEqProofs [*])
    have hL : (Ip.through (ptsL l)).length = l.length := by rw [Ip.through, outer_len, hlen]
    refine .same ⟨ob, hob, by rw [hL], ?_⟩
    rw [Ip.through, hlen]
end Go.Proofs.YtmgpkcpalpejcaaDoor
