/- The chapter's examples: sane. -/
import Derived.Test.YtliglilanpfjhaaS21ZM
namespace Go.Proofs.Ytliglilanpfjhaa
open Go.Pv
set_option maxRecDepth 100000
set_option maxHeartbeats 8000000
def elF (K : PV) (a b : Ky) (c d : Int) : List PV := K :: (a.enc ++ (b.enc ++ [.int c, .int d]))
section
variable (K : PV) (a b : Ky) (c d : Int)
@[simp] theorem elF_len : (elF K a b c d).length = 23 := rfl
@[simp] theorem elF_all : sub (elF K a b c d) 0 23 = some (elF K a b c d) := rfl
@[simp] theorem elF_a : sub (elF K a b c d) 1 10 = some a.enc := rfl
@[simp] theorem elF_b : sub (elF K a b c d) 11 10 = some b.enc := rfl
@[simp] theorem elF_K (h : 0 < (elF K a b c d).length) : (elF K a b c d)[0]'h = K := rfl
@[simp] theorem elF_c (h : 21 < (elF K a b c d).length) : (elF K a b c d)[21]'h = .int c := rfl
@[simp] theorem elF_d (h : 22 < (elF K a b c d).length) : (elF K a b c d)[22]'h = .int d := rfl
@[simp high] theorem fill1 (hK : K.cells = some [K]) : fillPV (.nil :: (.int 0) :: (.bool false) :: .nil :: (.bool false) :: .nil :: .nil :: .nil :: (.int 0) :: (.int 0) :: (.int 0) :: (.int 0) :: (.bool false) :: .nil :: (.bool false) :: .nil :: .nil :: .nil :: (.int 0) :: (.int 0) :: (.int 0) :: (.int 0) :: (.int 0) :: []) [(0, 1, K), (1, 10, .agg a.enc), (11, 10, .agg b.enc), (21, 1, .int c), (22, 1, .int d)] = some (elF K a b c d) := by
  simp [elF, Ky.enc, hK]
end
def row5 (X0 X1 X2 X3 X4 : List PV) : List PV := [X0, X1, X2, X3, X4].flatten
def row4 (X0 X1 X2 X3 : List PV) : List PV := [X0, X1, X2, X3].flatten
@[simp high] theorem fill5 (X0 X1 X2 X3 X4 : List PV) (h0 : X0.length = 23) (h1 : X1.length = 23) (h2 : X2.length = 23) (h3 : X3.length = 23) (h4 : X4.length = 23) :
    fillPV (.nil :: (.int 0) :: (.bool false) :: .nil :: (.bool false) :: .nil :: .nil :: .nil :: (.int 0) :: (.int 0) :: (.int 0) :: (.int 0) :: (.bool false) :: .nil :: (.bool false) :: .nil :: .nil :: .nil :: (.int 0) :: (.int 0) :: (.int 0) :: (.int 0) :: (.int 0) :: .nil :: (.int 0) :: (.bool false) :: .nil :: (.bool false) :: .nil :: .nil :: .nil :: (.int 0) :: (.int 0) :: (.int 0) :: (.int 0) :: (.bool false) :: .nil :: (.bool false) :: .nil :: .nil :: .nil :: (.int 0) :: (.int 0) :: (.int 0) :: (.int 0) :: (.int 0) :: .nil :: (.int 0) :: (.bool false) :: .nil :: (.bool false) :: .nil :: .nil :: .nil :: (.int 0) :: (.int 0) :: (.int 0) :: (.int 0) :: (.bool false) :: .nil :: (.bool false) :: .nil :: .nil :: .nil :: (.int 0) :: (.int 0) :: (.int 0) :: (.int 0) :: (.int 0) :: .nil :: (.int 0) :: (.bool false) :: .nil :: (.bool false) :: .nil :: .nil :: .nil :: (.int 0) :: (.int 0) :: (.int 0) :: (.int 0) :: (.bool false) :: .nil :: (.bool false) :: .nil :: .nil :: .nil :: (.int 0) :: (.int 0) :: (.int 0) :: (.int 0) :: (.int 0) :: .nil :: (.int 0) :: (.bool false) :: .nil :: (.bool false) :: .nil :: .nil :: .nil :: (.int 0) :: (.int 0) :: (.int 0) :: (.int 0) :: (.bool false) :: .nil :: (.bool false) :: .nil :: .nil :: .nil :: (.int 0) :: (.int 0) :: (.int 0) :: (.int 0) :: (.int 0) :: []) [(0, 23, .agg X0), (23, 23, .agg X1), (46, 23, .agg X2), (69, 23, .agg X3), (92, 23, .agg X4)] = some (row5 X0 X1 X2 X3 X4) :=
  fill_cat0 (k := 23) [X0, X1, X2, X3, X4] _ (by simp [h0, h1, h2, h3, h4]) (by simp)
@[simp high] theorem fill4 (X0 X1 X2 X3 : List PV) (h0 : X0.length = 10) (h1 : X1.length = 10) (h2 : X2.length = 10) (h3 : X3.length = 10) :
    fillPV ((.int 0) :: (.bool false) :: .nil :: (.bool false) :: .nil :: .nil :: .nil :: (.int 0) :: (.int 0) :: (.int 0) :: (.int 0) :: (.bool false) :: .nil :: (.bool false) :: .nil :: .nil :: .nil :: (.int 0) :: (.int 0) :: (.int 0) :: (.int 0) :: (.bool false) :: .nil :: (.bool false) :: .nil :: .nil :: .nil :: (.int 0) :: (.int 0) :: (.int 0) :: (.int 0) :: (.bool false) :: .nil :: (.bool false) :: .nil :: .nil :: .nil :: (.int 0) :: (.int 0) :: (.int 0) :: []) [(0, 10, .agg X0), (10, 10, .agg X1), (20, 10, .agg X2), (30, 10, .agg X3)] = some (row4 X0 X1 X2 X3) :=
  fill_cat0 (k := 10) [X0, X1, X2, X3] _ (by simp [h0, h1, h2, h3]) (by simp)
abbrev e0 : ByteArray := ⟨#[]⟩
abbrev exK : List Ke := [⟨3, e0, 0⟩, ⟨6, e0, 0⟩]
theorem kd_len (e s h lo : Int) (hs : s.natAbs < 1073741824) : (kd e s h lo).Len := by
  have h1 : dl s.natAbs ≤ 1 := dl_one hs
  have h2 : dl (1 : Int).natAbs ≤ 1 := dl_one (by decide)
  unfold dl at h1 h2
  refine ⟨⟨?_, ?_⟩, ?_, ?_, ?_, ?_⟩
  · show (digs s.natAbs).length ≤ 100000
    omega
  · show (digs (1 : Int).natAbs).length ≤ 100000
    omega
  · intro r hr
    cases hr
  · intro r hr
    cases hr
  · exact Nat.zero_le _
  · exact Nat.zero_le _
theorem cmp_ex (l : List Ke) (a b : Ky) (ha : a.Len) (hb : b.Len) (hl : l.length ≤ 100000) (c d e : Int) (h1 : cmpA l a b = (c, d)) (h2 : cmpE l a b = e) (K : PV) (hK : PLe K (Ke.lst l)) (st : Store) : Rets P F.ties_Compare [K, a.pv, b.pv] st (.tuple [.int c, .int d, .int e]) := by
  have := compareT_spec l hl a b ha hb st
  rw [h1, h2] at this
  exact Rets.args (ps := [K, a.pv, b.pv]) (qs := [Ke.lst l, a.pv, b.pv]) (show PsLe [K, a.pv, b.pv] [Ke.lst l, a.pv, b.pv] from ⟨hK, .refl _, .refl _, trivial⟩) this
theorem x1a : cmpA [] (kd 0 3 0 0) (kd 1 2 9 0) = (-1, 0) := by decide +kernel
theorem x1e : cmpE [] (kd 0 3 0 0) (kd 1 2 9 0) = 0 := by decide +kernel
theorem x2a : cmpA [] (kd 0 3 0 0) (kd 1 3 9 0) = (0, -1) := by decide +kernel
theorem x2e : cmpE [] (kd 0 3 0 0) (kd 1 3 9 0) = 0 := by decide +kernel
theorem x3a : cmpA exK (kd 0 3 7 0) (kd 1 3 9 5) = (1, 1) := by decide +kernel
theorem x3e : cmpE exK (kd 0 3 7 0) (kd 1 3 9 5) = 0 := by decide +kernel
theorem x4a : cmpA exK (kd 0 3 7 4) (kd 1 3 7 5) = (-1, 2) := by decide +kernel
theorem x4e : cmpE exK (kd 0 3 7 4) (kd 1 3 7 5) = 0 := by decide +kernel
theorem x5a : cmpA exK (kd 0 3 7 5) (kd 1 3 7 5) = (0, -1) := by decide +kernel
theorem x5e : cmpE exK (kd 0 3 7 5) (kd 1 3 7 5) = 0 := by decide +kernel
theorem x6e : cmpE [⟨5, e0, 0⟩] (kd 0 1 1 1) (kd 1 1 1 1) = 210 := by decide +kernel
theorem x7e : cmpE [⟨1, e0, 0⟩] (kd 0 1 1 1) (kd 1 1 1 1) = 210 := by decide +kernel
def kz : Ky := ⟨0, ⟨false, [], false, []⟩, [], [], 0, 0, 0⟩
theorem x8e : cmpE [] kz (kd 1 1 1 1) = 210 := by decide +kernel
theorem cmpA_err {l : List Ke} {a b : Ky} (h : cmpE l a b = 210) : cmpA l a b = (0, 0) := by unfold cmpA; rw [h]; rfl
theorem kz_len : kz.Len := ⟨⟨Nat.zero_le _, Nat.zero_le _⟩, (fun _ h => by cases h), (fun _ h => by cases h), Nat.zero_le _, Nat.zero_le _⟩
def exL : List Ky := [kd 5 1 3 0, kd 4 1 3 0, kd 3 2 1 0, kd 2 1 8 0]
theorem y1e : sortE [⟨3, e0, 0⟩] exL = 0 := by decide +kernel
theorem y1a : sortA [⟨3, e0, 0⟩] exL = [2, 3, 1, 0] := by decide +kernel
theorem sort_ex (st : Store) : Rets P F.ties_Sort [.list false [.int 3, .val (.string ⟨#[]⟩), .int 0] 1, .list true (row4 (kd 5 1 3 0).enc (kd 4 1 3 0).enc (kd 3 2 1 0).enc (kd 2 1 8 0).enc) 4] st (.tuple [intLst false [2, 3, 1, 0], .int 0]) := by
  have := sortT_spec [⟨3, e0, 0⟩] (by decide) exL (by decide) (fun x hx => by
    simp only [exL, List.mem_cons, List.not_mem_nil, or_false] at hx
    rcases hx with rfl | rfl | rfl | rfl <;> exact kd_len _ _ _ _ (by decide)) st
  rw [y1e, y1a] at this
  exact Rets.args (qs := [Ke.lst [⟨3, e0, 0⟩], Ky.lst exL]) (show PsLe _ _ from ⟨.refl _, .loose, trivial⟩) this
theorem sort_ex0 (st : Store) : Rets P F.ties_Sort [.nil, .nil] st (.tuple [intLst false [], .int 0]) := by
  have := sortT_spec [] (by decide) [] (by decide) (fun x hx => by cases hx) st
  exact Rets.args (qs := [Ke.lst [], Ky.lst []]) (show PsLe _ _ from ⟨.nil1, .nil1, trivial⟩) this
abbrev exPK : PV := .list true [.int 3, .val (.string ⟨#[]⟩), .int 0, .int 6, .val (.string ⟨#[]⟩), .int 0] 2
/-- What is compared in the examples. -/
def exRow (i : Nat) : List PV :=
  match i with
  | 0 => elF .nil (kd 0 3 0 0) (kd 1 2 9 0) (-1) 0
  | 1 => elF .nil (kd 0 3 0 0) (kd 1 3 9 0) 0 (-1)
  | 2 => elF exPK (kd 0 3 7 0) (kd 1 3 9 5) 1 1
  | 3 => elF exPK (kd 0 3 7 4) (kd 1 3 7 5) (-1) 2
  | _ => elF exPK (kd 0 3 7 5) (kd 1 3 7 5) 0 (-1)
theorem row5_sub {X0 X1 X2 X3 X4 : List PV} (h0 : X0.length = 23) (h1 : X1.length = 23) (h2 : X2.length = 23) (h3 : X3.length = 23) (h4 : X4.length = 23) (i : Nat) (hi : i < 5) : sub (row5 X0 X1 X2 X3 X4) (i * 23) 23 = some ([X0, X1, X2, X3, X4][i]'(by simpa using hi)) := by
  have hl : ∀ X ∈ [X0, X1, X2, X3, X4], X.length = 23 := by simp [h0, h1, h2, h3, h4]
  unfold row5
  have := flat_sub (α := {X : List PV // X.length = 23}) (fun X => X.1) 23 (fun X => X.2) [⟨X0, h0⟩, ⟨X1, h1⟩, ⟨X2, h2⟩, ⟨X3, h3⟩, ⟨X4, h4⟩] i (by simpa using hi)
  simp only [List.flatMap_cons, List.flatMap_nil, List.flatten_cons, List.flatten_nil] at this ⊢
  rw [this]
  match i, hi with
  | 0, _ => rfl
  | 1, _ => rfl
  | 2, _ => rfl
  | 3, _ => rfl
  | 4, _ => rfl
theorem exRow_ok (i : Nat) (hi : i < 5) : ∃ K a b c d, exRow i = elF K a b c d ∧ ∀ st, Rets P F.ties_Compare [K, a.pv, b.pv] st (.tuple [.int c, .int d, .int 0]) := by
  have n3 : (3 : Int).natAbs < 1073741824 := by decide
  have n2 : (2 : Int).natAbs < 1073741824 := by decide
  match i, hi with
  | 0, _ => exact ⟨_, _, _, _, _, rfl, cmp_ex [] _ _ (kd_len _ _ _ _ n3) (kd_len _ _ _ _ n2) (by decide) _ _ _ x1a x1e _ .nil1⟩
  | 1, _ => exact ⟨_, _, _, _, _, rfl, cmp_ex [] _ _ (kd_len _ _ _ _ n3) (kd_len _ _ _ _ n3) (by decide) _ _ _ x2a x2e _ .nil1⟩
  | 2, _ => exact ⟨_, _, _, _, _, rfl, cmp_ex exK _ _ (kd_len _ _ _ _ n3) (kd_len _ _ _ _ n3) (by decide) _ _ _ x3a x3e _ .loose⟩
  | 3, _ => exact ⟨_, _, _, _, _, rfl, cmp_ex exK _ _ (kd_len _ _ _ _ n3) (kd_len _ _ _ _ n3) (by decide) _ _ _ x4a x4e _ .loose⟩
  | 4, _ => exact ⟨_, _, _, _, _, rfl, cmp_ex exK _ _ (kd_len _ _ _ _ n3) (kd_len _ _ _ _ n3) (by decide) _ _ _ x5a x5e _ .loose⟩
end Go.Proofs.Ytliglilanpfjhaa
/- sane. -/
namespace Go.Proofs.Ytliglilanpfjhaa
open Go.Pv
set_option maxRecDepth 100000
set_option maxHeartbeats 8000000
theorem sane_spec (st : Store) : Rets P F.podiumlaw21_sane [] st (.bool true) := by
  have k := fun e s h lo h1 h2 st => keyed_spec e s h lo h1 h2 st
  have k1 : ∀ e h lo st, Rets P F.podiumlaw21_keyed [.int e, .int 1, .int h, .int lo] st (kd e 1 h lo).pv := fun e h lo st => keyed_spec e 1 h lo (by decide) (by decide) st
  have k2 : ∀ e h lo st, Rets P F.podiumlaw21_keyed [.int e, .int 2, .int h, .int lo] st (kd e 2 h lo).pv := fun e h lo st => keyed_spec e 2 h lo (by decide) (by decide) st
  have k3 : ∀ e h lo st, Rets P F.podiumlaw21_keyed [.int e, .int 3, .int h, .int lo] st (kd e 3 h lo).pv := fun e h lo st => keyed_spec e 3 h lo (by decide) (by decide) st
  have n1 : (1 : Int).natAbs < 1073741824 := by decide
  have c6 := cmp_ex [⟨5, e0, 0⟩] _ _ (kd_len 0 1 1 1 n1) (kd_len 1 1 1 1 n1) (by decide) _ _ _ (cmpA_err x6e) x6e (.list true [.int 5, .val (.string ⟨#[]⟩), .int 0] 1) .loose
  have c7 := cmp_ex [⟨1, e0, 0⟩] _ _ (kd_len 0 1 1 1 n1) (kd_len 1 1 1 1 n1) (by decide) _ _ _ (cmpA_err x7e) x7e (.list true [.int 1, .val (.string ⟨#[]⟩), .int 0] 1) .loose
  have c8 : ∀ st, Rets P F.ties_Compare [.nil, .agg [.int 0, .bool false, .nil, .bool false, .nil, .nil, .nil, .int 0, .int 0, .int 0], (kd 1 1 1 1).pv] st (.tuple [.int 0, .int 0, .int 210]) := fun st => by
    have := cmp_ex [] _ _ kz_len (kd_len 1 1 1 1 n1) (by decide) _ _ _ (cmpA_err x8e) x8e (Ke.lst []) (.refl _) st
    refine Rets.args (qs := [Ke.lst [], kz.pv, (kd 1 1 1 1).pv]) (show PsLe _ _ from ⟨.nil1, .aggs ?_, .refl _, trivial⟩) this
    exact ⟨.refl _, .refl _, .nil1, .refl _, .nil1, .nil1, .nil1, .refl _, .refl _, .refl _, trivial⟩
  have s1 := sort_ex
  have s0 := sort_ex0
  have q1 := sameInts_spec false true [2, 3, 1, 0] [2, 3, 1, 0] (by decide)
  have q1 : ∀ st, Rets P F.podiumref13_SameInts [intLst false [2, 3, 1, 0], .list true [.int 2, .int 3, .int 1, .int 0] 4] st (.bool true) := fun st => by
    have := q1 st
    rw [decide_eq_true rfl] at this
    exact this
  clear n1 k
  refine H.podiumlaw21_sane.view hmix rfl rfl ?_
  repeat' (first 
   | (with_reducible refine Rets.xcall (k2 _ _ _ _) ?_)
   | (with_reducible refine Rets.xcall (k3 _ _ _ _) ?_)
   | (with_reducible refine Lit.imm ?_)
   | (simp -dsimp -implicitDefEqProofs [*]))
  obtain ⟨R, hR⟩ : ∃ R, R = row5 (exRow 0) (exRow 1) (exRow 2) (exRow 3) (exRow 4) := ⟨_, rfl⟩
  have hR2 : row5 (elF .nil (kd 0 3 0 0) (kd 1 2 9 0) (-1) 0) (elF .nil (kd 0 3 0 0) (kd 1 3 9 0) 0 (-1)) (elF exPK (kd 0 3 7 0) (kd 1 3 9 5) 1 1) (elF exPK (kd 0 3 7 4) (kd 1 3 7 5) (-1) 2) (elF exPK (kd 0 3 7 5) (kd 1 3 7 5) 0 (-1)) = R := hR.symm
  have gR : Hid (∀ i (hi : i < 5), sub R (i * 23) 23 = some (exRow i)) := ⟨fun i hi => by
    rw [hR, row5_sub rfl rfl rfl rfl rfl i hi]
    match i, hi with
    | 0, _ => rfl
    | 1, _ => rfl
    | 2, _ => rfl
    | 3, _ => rfl
    | 4, _ => rfl⟩
  have lR : R.length = 115 := by rw [hR]; rfl
  clear hR
  refine xloop_for (fun n : Nat => [(1, exPK), (41, .list true R 5), (42, .int 5), (43, .int n)]) (fun _ => st) (fun n => n ≤ 5) (fun n => 5 - n) 0 (Nat.zero_le _) (by simp [hR2]) (.refl _) ?_
  clear hR2
  intro n hn
  by_cases hnl : n < 5
  · have ww := wrap_succ (n := n) (by omega)
    have h115 : n * 23 < 115 := by omega
    have g := gR.out n hnl
    obtain ⟨K, a, d, x, y, e1, e2⟩ := exRow_ok n hnl
    rw [e1] at g
    clear e1 gR k1 k2 k3 c6 c7 c8 s1 s0 q1
    repeat' (first 
     | (with_reducible refine Fresh.intro fun b hb => ?_) <;> (try simp -dsimp -implicitDefEqProofs [*] at hb)
     | (with_reducible refine Rets.xcall (e2 _) ?_)
     | (with_reducible refine And.intro (fun h => ?_) (fun h => ?_)) <;> (try (exfalso; omega))
     | ((with_reducible refine and_keep ?_ fun hk => ?_); omega)
     | (simp -dsimp -implicitDefEqProofs [*]))
    exact Next.intro (n + 1) (by omega) (by omega) (by simp) (by repeat' (first | exact StLe.refl _ | (refine StLe_cons (by simp [*]; done) ?_) | (refine StLe_fresh (by simp [*]; done) ?_)))
  · obtain rfl : n = 5 := by omega
    clear gR
    repeat' (first 
     | (with_reducible refine Rets.xcall (k1 _ _ _ _) ?_)
     | (with_reducible refine Rets.xcall (k2 _ _ _ _) ?_)
     | (with_reducible refine Rets.xcall (c6 _) ?_)
     | (with_reducible refine Rets.xcall (c7 _) ?_)
     | (with_reducible refine Rets.xcall (c8 _) ?_)
     | (with_reducible refine Rets.xcall (s1 _) ?_)
     | (with_reducible refine Rets.xcall (s0 _) ?_)
     | (with_reducible refine Rets.xcall (q1 _) ?_)
     | (with_reducible refine Lit.imm ?_)
     | (with_reducible refine DrawLate.intro [] ?_)
     | (simp -dsimp -implicitDefEqProofs [*]))
    exact .same ⟨rfl, rfl⟩
end Go.Proofs.Ytliglilanpfjhaa
