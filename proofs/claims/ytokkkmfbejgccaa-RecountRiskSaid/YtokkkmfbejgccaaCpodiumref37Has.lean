/- The code of one function. -/
import Derived.Test.YtokkkmfbejgccaaCode
import Derived.Test.YtokkkmfbejgccaaCpodiumlaw57RecountEnough
set_option maxRecDepth 100000
namespace Go.Proofs.Ytokkkmfbejgccaa
open Go.Pv
/-- podium/podiumref37.Has -/
noncomputable def C.podiumref37_Has : MFunc := ⟨18, 2, [.tmp 4],
  (.seq (.region [
    ⟨(some 4), none, .val (.mv (.const (.bool false)))⟩] [])
  (.seq (.seq (.region [
    ⟨(some 5), none, .val (.mv (.const (.int 0)))⟩] [])
  (.block 0 (.loop (.seq (.seq (.region [
    ⟨(some 6), none, .val (.mv (.tmp 5))⟩,
    ⟨(some 7), none, .val (.mv (.tmp 0))⟩,
    ⟨(some 8), none, .val (.len (.tmp 7))⟩,
    ⟨(some 9), none, .val (.bin .lss T.int (.tmp 6) (.tmp 8))⟩] [6, 7, 8])
  (.cond (.tmp 9)
  .skip
  (.exit 0)))
  (.seq (.block 1 (.seq (.region [
    ⟨(some 12), none, .val (.mv (.tmp 0))⟩,
    ⟨(some 13), none, .val (.mv (.tmp 5))⟩,
    ⟨(some 14), none, .val (.indexAddr 1 (.tmp 12) (.tmp 13))⟩,
    ⟨(some 15), none, .val (.load 1 false (.tmp 14))⟩,
    ⟨(some 16), none, .val (.mv (.tmp 1))⟩,
    ⟨(some 17), none, .val (.bin .eql T.int (.tmp 15) (.tmp 16))⟩] [12, 13, 14, 15, 16])
  (.cond (.tmp 17)
  (.seq (.region [
    ⟨(some 4), none, .val (.mv (.const (.bool true)))⟩] [])
  .ret)
  .skip)))
  (.region [
    ⟨(some 10), none, .val (.mv (.tmp 5))⟩,
    ⟨(some 11), none, .val (.bin .add T.int (.tmp 10) (.const (.int 1)))⟩,
    ⟨(some 5), none, .val (.mv (.tmp 11))⟩] [10, 11]))))))
  (.seq (.region [
    ⟨(some 4), none, .val (.mv (.const (.bool false)))⟩] [])
  .ret)))⟩
theorem H.podiumref37_Has : Has P F.podiumref37_Has C.podiumref37_Has := ⟨Try.f53, Try.func53, by kernel_rfl, by kernel_rfl⟩
end Go.Proofs.Ytokkkmfbejgccaa
/- The code of one function. -/
set_option maxRecDepth 100000
namespace Go.Proofs.Ytokkkmfbejgccaa
open Go.Pv
/-- podium/podiumref41.orders -/
noncomputable def C.podiumref41_orders : MFunc := ⟨34, 2, [.tmp 4],
  (.seq (.region [
    ⟨(some 4), none, .val (.mv (.const .nil))⟩] [])
  (.seq (.seq (.region [
    ⟨(some 7), none, .val (.mv (.tmp 0))⟩,
    ⟨(some 8), none, .val (.len (.tmp 7))⟩,
    ⟨(some 9), none, .val (.mv (.tmp 1))⟩,
    ⟨(some 10), none, .val (.bin .eql T.int (.tmp 8) (.tmp 9))⟩] [7, 8, 9])
  (.cond (.tmp 10)
  (.seq (.region [
    ⟨(some 11), none, .val (.mv (.tmp 0))⟩,
    ⟨(some 12), none, .val (.buildSlice T.Lint 1 [.nil] [(0, 1, (.tmp 11))])⟩,
    ⟨(some 4), none, .val (.mv (.tmp 12))⟩] [11, 12])
  .ret)
  .skip))
  (.seq (.region [
    ⟨(some 13), none, .val (.buildSlice T.Lint 0 [] [])⟩,
    ⟨(some 5), none, .val (.mv (.tmp 13))⟩] [13])
  (.seq (.seq (.region [
    ⟨(some 6), none, .val (.mv (.const (.int 0)))⟩] [])
  (.block 0 (.loop (.seq (.seq (.region [
    ⟨(some 14), none, .val (.mv (.tmp 6))⟩,
    ⟨(some 15), none, .val (.mv (.tmp 1))⟩,
    ⟨(some 16), none, .val (.bin .lss T.int (.tmp 14) (.tmp 15))⟩] [14, 15])
  (.cond (.tmp 16)
  .skip
  (.exit 0)))
  (.seq (.block 1 (.seq (.region [
    ⟨(some 19), none, .val (.mv (.tmp 0))⟩,
    ⟨(some 20), none, .val (.mv (.tmp 6))⟩,
    ⟨(some 21), none, .call (.const (.func (.func F.podiumref37_Has) [] [])) [(.tmp 19), (.tmp 20)]⟩,
    ⟨(some 22), none, .val (.un .not (.tmp 21))⟩] [19, 20, 21])
  (.cond (.tmp 22)
  (.region [
    ⟨(some 23), none, .val (.mv (.tmp 5))⟩,
    ⟨(some 24), none, .val (.buildSlice T.int 0 [] [])⟩,
    ⟨(some 25), none, .val (.mv (.tmp 0))⟩,
    ⟨(some 26), none, .append T.int 8 1 (.tmp 24) (.tmp 25)⟩,
    ⟨(some 27), none, .val (.mv (.tmp 6))⟩,
    ⟨(some 28), none, .val (.buildSlice T.int 1 [(.int 0)] [(0, 1, (.tmp 27))])⟩,
    ⟨(some 29), none, .append T.int 8 1 (.tmp 26) (.tmp 28)⟩,
    ⟨(some 30), none, .val (.mv (.tmp 1))⟩,
    ⟨(some 31), none, .call (.const (.func (.func F.podiumref41_orders) [] [])) [(.tmp 29), (.tmp 30)]⟩,
    ⟨(some 32), none, .append T.Lint 24 1 (.tmp 23) (.tmp 31)⟩,
    ⟨(some 5), none, .val (.mv (.tmp 32))⟩] [23, 24, 25, 26, 27, 28, 29, 30, 31, 32])
  .skip)))
  (.region [
    ⟨(some 17), none, .val (.mv (.tmp 6))⟩,
    ⟨(some 18), none, .val (.bin .add T.int (.tmp 17) (.const (.int 1)))⟩,
    ⟨(some 6), none, .val (.mv (.tmp 18))⟩] [17, 18]))))))
  (.seq (.region [
    ⟨(some 33), none, .val (.mv (.tmp 5))⟩,
    ⟨(some 4), none, .val (.mv (.tmp 33))⟩] [33])
  .ret)))))⟩
theorem H.podiumref41_orders : Has P F.podiumref41_orders C.podiumref41_orders := ⟨Try.f33, Try.func33, by kernel_rfl, by kernel_rfl⟩
end Go.Proofs.Ytokkkmfbejgccaa
/- The code of one function. -/
set_option maxRecDepth 100000
namespace Go.Proofs.Ytokkkmfbejgccaa
open Go.Pv
/-- podium/podiumref41.All -/
noncomputable def C.podiumref41_All : MFunc := ⟨5, 1, [.tmp 2],
  (.seq (.region [
    ⟨(some 2), none, .val (.mv (.const .nil))⟩] [])
  (.seq (.region [
    ⟨(some 3), none, .val (.mv (.tmp 0))⟩,
    ⟨(some 4), none, .call (.const (.func (.func F.podiumref41_orders) [] [])) [(.const .nil), (.tmp 3)]⟩,
    ⟨(some 2), none, .val (.mv (.tmp 4))⟩] [3, 4])
  .ret))⟩
theorem H.podiumref41_All : Has P F.podiumref41_All C.podiumref41_All := ⟨Try.f15, Try.func15, by kernel_rfl, by kernel_rfl⟩
end Go.Proofs.Ytokkkmfbejgccaa
/- The reference's Has, and all orders. -/
namespace Go.Proofs.Ytokkkmfbejgccaa
open Go.Pv
set_option maxRecDepth 100000
set_option maxHeartbeats 16000000
theorem has37_spec (t : Bool) (O : List Int) (x : Int) (hO : O.length ≤ 1000000) (st : Store) : Rets P F.podiumref37_Has [intLst t O, .int x] st (.bool (decide (x ∈ O))) := by
  refine H.podiumref37_Has.pure hmix rfl rfl ?_
  obtain ⟨r, hr0⟩ : ∃ r, r = decide (x ∈ O) := ⟨_, rfl⟩
  rw [← hr0]
  have hr : Hid _ := ⟨hr0⟩
  clear hr0
  repeat' (simp -dsimp -implicitDefEqProofs [*])
  refine xloop_for (fun y : Nat => [(5, .int y), (4, .bool false), (0, intLst t O), (1, .int x)]) (fun _ => st) (fun y => y ≤ O.length ∧ ∀ j (h : j < O.length), j < y → O[j] ≠ x) (fun y => O.length - y) 0 ⟨Nat.zero_le _, fun j _ h => absurd h (Nat.not_lt_zero _)⟩ (by simp) (.refl _) ?_
  intro i ⟨hi, hp0⟩
  have hp : Hid _ := ⟨hp0⟩
  clear hp0
  by_cases hl : i < O.length
  · have x5 := wrap_succ (n := i) (by omega)
    by_cases he : O[i] = x
    · have er : r = true := by rw [hr.out, decide_eq_true_eq, ← he]; exact List.getElem_mem _
      clear hr
      subst er
      repeat' (simp -dsimp -implicitDefEqProofs [*])
    · have hp2 : Hid _ := ⟨fun j (h : j < O.length) (hj : j < i + 1) => by
        rcases Nat.lt_succ_iff_lt_or_eq.1 hj with h1 | h1
        · exact hp.out j h h1
        · subst h1; exact he⟩
      clear hr
      repeat' (simp -dsimp -implicitDefEqProofs [*])
      exact Next.intro (i + 1) ⟨hl, hp2.out⟩ (by omega) (by simp) (.refl _)
  · have er : r = false := by
      rw [hr.out, decide_eq_false_iff_not]
      intro hm
      obtain ⟨j, h, e⟩ := List.mem_iff_getElem.1 hm
      exact hp.out j h (by omega) e
    clear hr
    subst er
    repeat' (simp -dsimp -implicitDefEqProofs [*])
def natI (l : List Nat) : List Int := l.map fun n : Nat => (n : Int)
theorem natI_mem {l : List Nat} {n : Nat} : (n : Int) ∈ natI l ↔ n ∈ l := by
  unfold natI
  rw [List.mem_map]
  constructor
  · rintro ⟨m, h1, h2⟩
    have : m = n := by omega
    exact this ▸ h1
  · exact fun h => ⟨n, h, rfl⟩
@[simp] theorem natI_len (l : List Nat) : (natI l).length = l.length := by simp [natI]
def nRow (l : List Nat) : List PV := intRow (natI l)
theorem nRow_len (l : List Nat) : (nRow l).length = l.length * 1 := by simp [nRow]
theorem nRow_append (l m : List Nat) : nRow (l ++ m) = nRow l ++ nRow m := by simp [nRow, natI, intRow_append]
def oRow (L : List (List Nat)) : List PV := L.map fun l => .list false (nRow l) l.length
theorem oRow_len (l : List (List Nat)) : (oRow l).length = l.length * 1 := by simp [oRow]
theorem oRow_append (l m : List (List Nat)) : oRow (l ++ m) = oRow l ++ oRow m := by simp [oRow]
theorem ords_len {n : Nat} : ∀ (f : Nat) (b : List Nat), (ords n f b).length ≤ n ^ f
  | 0, b => by simp [ords]
  | f + 1, b => by
    rw [ords, List.length_flatMap]
    have h : ∀ l : List Nat, (l.map fun x => (if x ∈ b then [] else ords n f (b ++ [x])).length).sum ≤ l.length * n ^ f := by
      intro l
      induction l with
      | nil => simp
      | cons x l ih =>
        have h1 : (if x ∈ b then [] else ords n f (b ++ [x])).length ≤ n ^ f := by
          split
          · simp
          · exact ords_len f _
        simp only [List.map_cons, List.sum_cons, List.length_cons, Nat.succ_mul]
        omega
    have := h (List.range n)
    rw [List.length_range] at this
    rw [Nat.pow_succ, Nat.mul_comm]
    exact this
/-- The orders with one of the first k elements next. -/
def ordK (n f : Nat) (b : List Nat) (k : Nat) : List (List Nat) := (List.range k).flatMap fun x => if x ∈ b then [] else ords n f (b ++ [x])
theorem ordK_succ (n f : Nat) (b : List Nat) (k : Nat) : ordK n f b (k + 1) = ordK n f b k ++ (if k ∈ b then [] else ords n f (b ++ [k])) := by
  unfold ordK
  rw [List.range_succ, List.flatMap_append]
  simp
theorem ordK_len (n f : Nat) (b : List Nat) : ∀ k, (ordK n f b k).length ≤ k * n ^ f
  | 0 => by simp [ordK]
  | k + 1 => by
    rw [ordK_succ, List.length_append, Nat.succ_mul]
    have h1 := ordK_len n f b k
    have h2 : (if k ∈ b then [] else ords n f (b ++ [k])).length ≤ n ^ f := by
      split
      · simp
      · exact ords_len f _
    omega
theorem pow6 {n f : Nat} (hn : n ≤ 6) (hf : f ≤ 6) : n ^ f ≤ 46656 :=
  Nat.le_trans (Nat.pow_le_pow_left hn f) (Nat.le_trans (Nat.pow_le_pow_right (by decide) hf) (by decide))
theorem orders_spec {n : Nat} (hn : n ≤ 6) : ∀ (f : Nat) (b : List Nat), b.length + f = n → ∀ st : Store, Rets P F.podiumref41_orders [.list false (nRow b) b.length, .int n] st (.list false (oRow (ords n f b)) (ords n f b).length)
  | 0, b, hb, st => by
    refine H.podiumref41_orders.view hmix rfl rfl ?_
    have e : ords n 0 b = [b] := rfl
    have hl : b.length = n := by omega
    rw [e]
    repeat' (first 
     | (with_reducible refine Lit.imm ?_)
     | (simp -dsimp -implicitDefEqProofs [*]))
    exact RetView.loose1 (t := true) (RetView.same ⟨by simp [oRow, hl], rfl⟩)
  | f + 1, b, hb, st => by
    have ih := fun x => orders_spec hn f (b ++ [x]) (by simp; omega)
    refine H.podiumref41_orders.view hmix rfl rfl ?_
    have hl : ¬ b.length = n := by omega
    have hh : ∀ x : Nat, ∀ st, Rets P F.podiumref37_Has [.list false (nRow b) b.length, .int x] st (.bool (decide (x ∈ b))) := fun x st => by
      have := has37_spec false (natI b) x (by simp; omega) st
      rw [decide_eq_decide.2 natI_mem] at this
      unfold intLst at this
      rw [natI_len] at this
      exact this
    repeat' (first 
     | (with_reducible refine Lit.imm ?_)
     | (with_reducible refine And.intro (fun h => ?_) (fun h => ?_)) <;> (try (exfalso; omega))
     | (simp -dsimp -implicitDefEqProofs [*]))
    refine xloop_for (fun y : Nat × Option (Acc (List Nat)) => [(6, .int y.1), (5, accT y.2), (4, .nil), (0, .list false (nRow b) b.length), (1, .int n)]) (fun y => accS T.Lint st y.2)
      (fun y => y.1 ≤ n ∧ accOk oRow 1 st y.2 ∧ accL y.2 = ordK n f b y.1) (fun y => n - y.1) (0, none) ⟨Nat.zero_le _, trivial, rfl⟩ (by simp) (by simp) ?_
    rintro ⟨k, o⟩ ⟨hk1, ho, hl2⟩
    simp only at hk1 ho hl2 ⊢
    have kl : Hid (accL o = ordK n f b k) := ⟨hl2⟩
    have kn : Hid ((accL o).length ≤ 300000) := ⟨by
      rw [hl2]
      have h1 := ordK_len n f b k
      have h2 := pow6 hn (show f ≤ 6 by omega)
      have h3 : k * n ^ f ≤ 6 * 46656 := Nat.mul_le_mul (by omega) h2
      omega⟩
    have kr : Hid ((ords n f (b ++ [k])).length ≤ 50000) := ⟨Nat.le_trans (ords_len f _) (Nat.le_trans (pow6 hn (by omega)) (by decide))⟩
    clear hl2
    by_cases hkn : k < n
    · have x5 := wrap_succ (n := k) (by omega)
      have e1 := ordK_succ n f b k
      have hhk := hh k
      have ihk := ih k
      clear hh ih
      by_cases hm : k ∈ b
      · rw [if_pos hm, List.append_nil] at e1
        rw [decide_eq_true hm] at hhk
        have k2 : Hid _ := ⟨e1⟩
        clear e1 hm
        repeat' (first 
         | (with_reducible refine Rets.xcall (hhk _) ?_)
         | (simp -dsimp -implicitDefEqProofs [*]))
        exact Next.intro (k + 1, o) ⟨hkn, ho, by simp only; rw [k2.out]; exact kl.out⟩ (by simp only; omega) (by simp) (.refl _)
      · rw [if_neg hm] at e1
        rw [decide_eq_false hm] at hhk
        have k2 : Hid _ := ⟨e1⟩
        clear e1 hm
        have lb : (nRow b).length = b.length := by simp [nRow]
        repeat' (first 
         | (with_reducible refine Rets.xcall (hhk _) ?_)
         | (with_reducible refine Lit.imm ?_)
         | (simp -dsimp -implicitDefEqProofs [-xappend_list, *]))
        refine xappend_copy nRow_len b rfl rfl (by omega) fun o1 ho1 hl1 => ?_
        have lb1 : (accL o1).length = b.length := by rw [hl1]
        repeat' (first 
         | (with_reducible refine Lit.imm ?_)
         | (simp -dsimp -implicitDefEqProofs [-xappend_list, *]))
        refine xappend_accT nRow_len nRow_append o1 ho1 [k] (by simp [nRow, natI, intRow]) rfl (by omega) (by rw [lb1]; omega) fun a ha hab hal => ?_
        rw [hl1] at hal
        clear ho1 hl1 lb1
        have ea : a.l.length = (b ++ [k]).length := by rw [hal]
        repeat' (simp -dsimp -implicitDefEqProofs [-xappend_list, *])
        have fz : Frz a.b (.arr T.int a.R) (.own a.b 0 (b.length + 1) a.cap) (.list false (nRow (b ++ [k])) (b.length + 1)) := by
          have h := Frz.acc (T := T.int) ha
          rw [hal, List.length_append] at h
          exact h
        have ih2 : ∀ st, Rets P F.podiumref41_orders [.list false (nRow (b ++ [k])) (b.length + 1), .int n] st (.list false (oRow (ords n f (b ++ [k]))) (ords n f (b ++ [k])).length) := fun st => by
          have h := ihk st
          rw [List.length_append] at h
          exact h
        refine xcall_frz (b := a.b) (o := .arr T.int a.R) hab (.refl _) (.cons fz (.cons (Frz.refl _) .nil)) (ih2 _) ?_
        clear ih2 fz
        clear ha hab hal ea ihk
        have lo : (oRow (ords n f (b ++ [k]))).length = (ords n f (b ++ [k])).length := by simp [oRow]
        obtain ⟨R, hR⟩ : ∃ R, R = ords n f (b ++ [k]) := ⟨_, rfl⟩
        have kr2 := kr.out
        have k3 := k2.out
        rw [← hR] at lo kr2 k3 ⊢
        have k3 : Hid _ := ⟨k3⟩
        clear hR
        repeat' (simp -dsimp -implicitDefEqProofs [-xappend_list, *])
        refine xappend_accT0 oRow_len oRow_append o ho R rfl rfl (by have := kn.out; omega) fun o' ho' hl' => ?_
        have kl' : Hid (accL o' = ordK n f b (k + 1)) := ⟨by rw [hl', kl.out, k3.out]⟩
        clear hl' kl
        repeat' (simp -dsimp -implicitDefEqProofs [-xappend_list, *])
        exact Next.intro (k + 1, o') ⟨hkn, ho', kl'.out⟩ (by simp only; omega) (by simp) (.refl _)
    · have e : k = n := by omega
      subst e
      clear hh ih
      repeat' (simp -dsimp -implicitDefEqProofs [*])
      refine RetView.accT1 rfl ho ?_
      rw [kl.out]
      exact RetView.same ⟨rfl, rfl⟩
theorem all_spec (n : Nat) (hn : n ≤ 6) (st : Store) : Rets P F.podiumref41_All [.int n] st (.list false (oRow (ords n n [])) (ords n n []).length) := by
  have c : ∀ st, Rets P F.podiumref41_orders [.nil, .int n] st (.list false (oRow (ords n n [])) (ords n n []).length) := fun st =>
    Rets.args (qs := [.list false (nRow []) 0, .int n]) ⟨PLe.nil0, .refl _, trivial⟩ (orders_spec hn n [] (by simp) st)
  refine H.podiumref41_All.view hmix rfl rfl ?_
  repeat' (first 
   | (with_reducible refine Rets.xcall (c _) ?_)
   | (simp -dsimp -implicitDefEqProofs [*]))
  exact RetView.same ⟨rfl, rfl⟩
end Go.Proofs.Ytokkkmfbejgccaa
/- RecountRisk: plain facts. -/
namespace Go.Proofs.Ytokkkmfbejgccaa
open Go.Pv
set_option maxRecDepth 100000
set_option maxHeartbeats 4000000
/-- A recount that is run to its end is confirmed just if the first sheets agree. -/
theorem runL_first {K : Int} : ∀ (l : List Bool) (q : Rc), q.a ≤ K → q.s = (if q.a < K then 0 else 1) → (K - q.a).toNat ≤ l.length →
    (runL K l q).1.s = if (l.take (K - q.a).toNat).all id = true then 1 else 2
  | [], q, h1, h2, h3 => by
    have ha : ¬ q.a < K := by simp only [List.length_nil] at h3; omega
    rw [if_neg ha] at h2
    simp [runL, h2]
  | b :: l, q, h1, h2, h3 => by
    by_cases ha : q.a < K
    · rw [if_pos ha] at h2
      have e : (K - q.a).toNat = (K - (q.a + 1)).toNat + 1 := by omega
      rw [e, List.take_succ_cons, List.all_cons]
      simp only [runL, if_pos h2]
      cases b with
      | false =>
        have h4 : (q.look false K).s ≠ 0 := by show (2 : Int) ≠ 0; decide
        rw [runL_stop h4]
        rfl
      | true =>
        have ih := runL_first (K := K) l (q.look true K) (by show q.a + 1 ≤ K; omega) (by
          show (if q.a + 1 = K then (1 : Int) else q.s) = if q.a + 1 < K then 0 else 1
          rw [h2]; split <;> split <;> omega) (by
          show (K - (q.a + 1)).toNat ≤ l.length
          simp only [List.length_cons] at h3; omega)
        have e2 : (q.look true K).a = q.a + 1 := rfl
        rw [e2] at ih
        rw [ih]
        simp
    · rw [if_neg ha] at h2
      have e : (K - q.a).toNat = 0 := by omega
      rw [runL_stop (by rw [h2]; decide), e]
      simp [h2]
theorem natI_order {n : Nat} {l : List Nat} (h : l ∈ ords n n []) : orderOk n (natI l) = true ∧ l.length = n ∧ ∀ x ∈ l, x < n := by
  obtain ⟨h1, h2, h3⟩ := ords_mem n [] l List.nodup_nil (fun x hx => absurd hx List.not_mem_nil) (by simp) h
  refine ⟨?_, h3, h2⟩
  unfold orderOk natI
  rw [Bool.and_eq_true, List.all_eq_true, decide_eq_true_eq]
  refine ⟨fun x hx => ?_, ?_⟩
  · obtain ⟨m, hm, rfl⟩ := List.mem_map.1 hx
    have := h2 m hm
    simp only [Bool.and_eq_true, decide_eq_true_eq]
    omega
  · refine List.Pairwise.map _ (fun a b (hab : a ≠ b) => ?_) h1
    omega
theorem seqA_nat (l : List Nat) (A : List Bool) : seqA (natI l) A = l.map fun x => A.getD x false := by
  unfold seqA natI
  rw [List.map_map]
  refine List.map_congr_left fun x _ => ?_
  simp
/-- What Run gives of a recount that was started, over an order of all sheets. -/
theorem run_order {n : Nat} {w : Int} {s1 s2 : Bool} {L1 L2 : List Int} {l : List Nat} {A : List Bool} (hE : needE n w s1 L1 s2 L2 = 0) (hK : needK n w s1 L1 s2 L2 ≤ n) (hA : A.length = n) (hl : l ∈ ords n n []) :
    ∃ (X : Rc) (N : Nat), runR (startR n w s1 L1 s2 L2) (natI l) A = (X, (N : Int), 0) ∧ X.s = if firstOk (fun x => A.getD x false) (needK n w s1 L1 s2 L2).toNat l = true then 1 else 2 := by
  obtain ⟨e, h1, -⟩ := startR_ok hE
  obtain ⟨ho, hlen, -⟩ := natI_order hl
  have hn2 : (startR n w s1 L1 s2 L2).n = n := by rw [e]
  have hKe : (startR n w s1 L1 s2 L2).K = needK n w s1 L1 s2 L2 := by rw [e]; rfl
  have hK0 : 0 ≤ needK n w s1 L1 s2 L2 := by unfold needK; split <;> omega
  have ha : (startR n w s1 L1 s2 L2).a = 0 := by rw [e]
  have hs : (startR n w s1 L1 s2 L2).s = if (startR n w s1 L1 s2 L2).a < needK n w s1 L1 s2 L2 then 0 else 1 := by
    rw [ha, e]
    simp only
    split <;> split <;> omega
  rw [runR_ok h1 (by rw [hn2, hA]) (by rw [hn2]; exact ho), hKe]
  refine ⟨_, _, rfl, ?_⟩
  have h := runL_first (K := needK n w s1 L1 s2 L2) (seqA (natI l) A) (startR n w s1 L1 s2 L2) (by rw [ha]; exact hK0) hs (by rw [ha, seqA_nat, List.length_map, hlen]; omega)
  rw [h, ha, Int.sub_zero, seqA_nat, ← List.map_take, List.all_map]
  rfl
theorem ords_total (n : Nat) : (ords n n []).length = fact n := by
  have := ords_all (n := n) n [] (fun _ => true) List.nodup_nil (fun x hx => absurd hx List.not_mem_nil) (by simp) (fun _ _ => rfl)
  rw [← this]
  simp
theorem countP_get : ∀ (A : List Bool), (List.range A.length).countP (fun x => A.getD x false) + A.count false = A.length
  | [] => rfl
  | b :: A => by
    have ih := countP_get A
    rw [List.length_cons, List.range_succ_eq_map, List.countP_cons, List.countP_map, List.count_cons]
    have e : (fun x => (b :: A).getD x false) ∘ Nat.succ = fun x => A.getD x false := rfl
    rw [e]
    generalize (List.range A.length).countP (fun x => A.getD x false) = c at ih ⊢
    cases b
    · simp only [List.getD_cons_zero]; simp; omega
    · simp only [List.getD_cons_zero]; simp; omega
/-- The part of all orders that confirm. -/
theorem part_miss {n K : Nat} {A : List Bool} (hA : A.length = n) (hK : K ≤ n) :
    mkRat ((ords n n []).countP (firstOk (fun x => A.getD x false) K) : Nat) (ords n n []).length = missR n (A.count false) K := by
  have h1 := ords_first (n := n) (fun x => A.getD x false) (K := K) n [] List.nodup_nil (fun x hx => absurd hx List.not_mem_nil) (by simp) (Nat.zero_le _) hK (fun x hx => absurd hx List.not_mem_nil)
  have h2 := countP_get A
  rw [hA] at h2
  have h3 : (List.range n).countP (fun x => A.getD x false) = n - A.count false := by omega
  rw [h1, ords_total, missR_eq n _ K hK, h3, ← desc_fact hK]
  simp only [List.length_nil, Nat.sub_zero]
  rw [Int.natCast_mul]
  exact Rat.mkRat_mul_right (Nat.pos_iff_ne_zero.1 (fact_pos _))
end Go.Proofs.Ytokkkmfbejgccaa
