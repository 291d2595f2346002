/- Package nat: division. -/
import Derived.Test.YtliglilanpfjhaaS21I
namespace Go.Proofs.Ytliglilanpfjhaa
open Go.Pv
set_option maxRecDepth 100000
theorem div_spec (t u : Bool) (x y : Nat) (hy : y ≠ 0) (hx : dl x ≤ 20000) (hy2 : dl y ≤ 20000) (st : Store) : Rets P F.nat_div [intLst t (digs x), intLst u (digs y)] st (.tuple [intLst false (digs (x / y)), intLst false (digs (x % y))]) := by
  refine H.nat_div.view hmix rfl rfl ?_
  have hc := compare_spec t u x y (by omega) (by omega)
  by_cases h : x < y
  · have e1 : cmpN x y = -1 := by unfold cmpN; rw [if_pos h]
    rw [e1] at hc
    have e2 : x / y = 0 := Nat.div_eq_of_lt h
    have e3 : x % y = x := Nat.mod_eq_of_lt h
    rw [e2, e3, digs_zero]
    clear e2 e3 e1
    repeat' (first 
     | (with_reducible refine Rets.xcall (hc _) ?_)
     | (simp -dsimp -implicitDefEqProofs [*]))
    exact .le (.tuple2 .nil0 .loose) (.same ⟨rfl, rfl⟩)
  · have e1 : ¬ cmpN x y < 0 := by unfold cmpN; rw [if_neg h]; split <;> omega
    obtain ⟨c, hcc⟩ : ∃ c, cmpN x y = c := ⟨_, rfl⟩
    rw [hcc] at hc e1
    have l0 := dl_pos hy
    by_cases h1 : dl y = 1
    · have l1 : (digs y).length = 1 := h1
      have yl : y < 1073741824 := by have := (dl_le (n := y) (k := 1)).1 (by omega); simpa using this
      have ey : digs y = [(y : Int)] := digs_one hy yl
      have hs := short_spec t (digs x) x y (dv_digs x) (digs_ok x) (by show dl x ≤ _; omega) (by omega) (by omega)
      have ht := trim_spec true [((x % y : Nat) : Int)] (by simp)
      have et : trimD [((x % y : Nat) : Int)] = digs (x % y) := by
        refine trimD_eq (dOk_cons.2 ⟨⟨by omega, ?_⟩, dOk_nil⟩) (by simp [dv])
        have := Nat.mod_lt x (show 0 < y by omega)
        unfold BB; omega
      rw [et] at ht
      have l1' : 0 < (digs y).length := by omega
      have g0 : (digs y)[0] = y := by simp [ey]
      clear hcc ey et l0 h1
      obtain ⟨r, hr⟩ : ∃ r, r = x % y := ⟨_, rfl⟩
      rw [← hr] at hs ht ⊢
      have ht : ∀ st, Rets P F.nat_trim [.list true [.int r] 1] st (intLst false (digs r)) := ht
      clear hr
      repeat' (first 
       | (with_reducible refine Rets.xcall (hc _) ?_)
       | (with_reducible refine Rets.xcall (hs _) ?_)
       | (with_reducible refine Rets.xcall (ht _) ?_)
       | (with_reducible refine Lit.imm ?_)
       | (simp -dsimp -implicitDefEqProofs [*]))
      exact .same ⟨rfl, rfl⟩
    · obtain ⟨k, hk⟩ : ∃ k, dl y = k + 2 := ⟨dl y - 2, by omega⟩
      have hl := long_spec t u x y k hk (by omega) hx
      have n1 : ¬ ((digs y).length : Int) = 1 := by unfold dl at h1; omega
      clear hcc
      repeat' (first 
       | (with_reducible refine Rets.xcall (hc _) ?_)
       | (with_reducible refine Rets.xcall (hl _) ?_)
       | (with_reducible refine And.intro (fun h => ?_) (fun h => ?_)) <;> (try (exfalso; omega))
       | (simp -dsimp -implicitDefEqProofs [*]))
      exact .same ⟨rfl, rfl⟩
end Go.Proofs.Ytliglilanpfjhaa
/- Package nat: checks, products of whole numbers, greatest common divisors. -/
namespace Go.Proofs.Ytliglilanpfjhaa
open Go.Pv
set_option maxRecDepth 100000
theorem ncaught_ret (b : Nat) (st : Store) : Defs P F.nat_caught [.ptr b 0] .returning st .returning st := by
  refine H.nat_caught.defs hmix rfl rfl ?_
  repeat' (simp -dsimp -implicitDefEqProofs [*])
theorem ncaught_pan (b : Nat) (n m : Int) (st : Store) (hb : sget st b = some (.arr T.apiErrno [.int m])) : Defs P F.nat_caught [.ptr b 0] (.panicking (.iface T.apiErrno (.int n))) st .returning (sset st b (.arr T.apiErrno [.int n])) := by
  refine H.nat_caught.defs hmix rfl rfl ?_
  repeat' (simp -dsimp -implicitDefEqProofs [*])
theorem check_ok (s1 t1 s2 t2 : Bool) (L1 L2 : List Int) (h1 : bigOk s1 L1 = true) (h2 : bigOk s2 L2 = true) (hl1 : L1.length ≤ 100000) (hl2 : L2.length ≤ 100000) (st : Store) : Rets P F.nat_check [.list true [.bool s1, intLst t1 L1, .bool s2, intLst t2 L2] 2] st (.tuple []) := by
  have c1 := natCheck_spec s1 t1 L1 hl1
  have c2 := natCheck_spec s2 t2 L2 hl2
  unfold bigP errB at c1 c2
  rw [h1] at c1
  rw [h2] at c2
  simp only [if_true] at c1 c2
  clear h1 h2
  refine H.nat_check.view hmix rfl rfl ?_
  repeat' (simp -dsimp -implicitDefEqProofs [*])
  refine xloop_for (fun n : Nat => [(5, .list true [.bool s1, intLst t1 L1, .bool s2, intLst t2 L2] 2), (6, .int 2), (7, .int n)]) (fun _ => st) (fun n => n ≤ 2) (fun n => 2 - n) 0 (by omega) (by simp) (.refl _) ?_
  intro n hn
  match n, hn with
  | 0, _ =>
    repeat' (first 
     | (with_reducible refine Fresh.intro fun b hb => ?_) <;> (try simp -dsimp -implicitDefEqProofs [*] at hb)
     | (with_reducible refine Rets.xcall (c1 _) ?_)
     | (simp -dsimp -implicitDefEqProofs [*]))
    exact Next.intro 1 (by omega) (by omega) (by simp) (by repeat' (first | exact StLe.refl _ | (refine StLe_cons (by simp [*]; done) ?_) | (refine StLe_fresh (by simp [*]; done) ?_)))
  | 1, _ =>
    repeat' (first 
     | (with_reducible refine Fresh.intro fun b hb => ?_) <;> (try simp -dsimp -implicitDefEqProofs [*] at hb)
     | (with_reducible refine Rets.xcall (c2 _) ?_)
     | (simp -dsimp -implicitDefEqProofs [*]))
    exact Next.intro 2 (by omega) (by omega) (by simp) (by repeat' (first | exact StLe.refl _ | (refine StLe_cons (by simp [*]; done) ?_) | (refine StLe_fresh (by simp [*]; done) ?_)))
  | 2, _ =>
    repeat' (simp -dsimp -implicitDefEqProofs [*])
    exact .same ⟨rfl, rfl⟩
theorem check_no (s1 t1 s2 t2 : Bool) (L1 L2 : List Int) (h : bigOk s1 L1 = true → bigOk s2 L2 = false) (hl1 : L1.length ≤ 100000) (hl2 : L2.length ≤ 100000) (st : Store) : Panics P F.nat_check [.list true [.bool s1, intLst t1 L1, .bool s2, intLst t2 L2] 2] st (.iface T.apiErrno (.int 90)) := by
  have c1 := natCheck_spec s1 t1 L1 hl1
  have c2 := natCheck_spec s2 t2 L2 hl2
  unfold bigP errB at c1 c2
  cases h1 : bigOk s1 L1 with
  | false =>
    rw [h1] at c1
    simp only [Bool.false_eq_true, if_false] at c1
    clear h h1 c2
    refine H.nat_check.panics hmix rfl rfl ?_
    repeat' (simp -dsimp -implicitDefEqProofs [*])
    refine xloop_for (fun n : Nat => [(5, .list true [.bool s1, intLst t1 L1, .bool s2, intLst t2 L2] 2), (6, .int 2), (7, .int 0)]) (fun _ => st) (fun n => True) (fun n => 0) 0 trivial (by simp) (.refl _) ?_
    intro n hn
    repeat' (first 
     | (with_reducible refine Fresh.intro fun b hb => ?_) <;> (try simp -dsimp -implicitDefEqProofs [*] at hb)
     | (with_reducible refine Rets.xcall (c1 _) ?_)
     | (simp -dsimp -implicitDefEqProofs [*]))
  | true =>
    have h2 := h h1
    rw [h1] at c1
    rw [h2] at c2
    simp only [Bool.false_eq_true, if_false, if_true] at c1 c2
    clear h h1 h2
    refine H.nat_check.panics hmix rfl rfl ?_
    repeat' (simp -dsimp -implicitDefEqProofs [*])
    refine xloop_for (fun n : Nat => [(5, .list true [.bool s1, intLst t1 L1, .bool s2, intLst t2 L2] 2), (6, .int 2), (7, .int n)]) (fun _ => st) (fun n => n ≤ 1) (fun n => 2 - n) 0 (by omega) (by simp) (.refl _) ?_
    intro n hn
    match n, hn with
    | 0, _ =>
      repeat' (first 
       | (with_reducible refine Fresh.intro fun b hb => ?_) <;> (try simp -dsimp -implicitDefEqProofs [*] at hb)
       | (with_reducible refine Rets.xcall (c1 _) ?_)
       | (simp -dsimp -implicitDefEqProofs [*]))
      exact Next.intro 1 (by omega) (by omega) (by simp) (by repeat' (first | exact StLe.refl _ | (refine StLe_cons (by simp [*]; done) ?_) | (refine StLe_fresh (by simp [*]; done) ?_)))
    | 1, _ =>
      repeat' (first 
       | (with_reducible refine Fresh.intro fun b hb => ?_) <;> (try simp -dsimp -implicitDefEqProofs [*] at hb)
       | (with_reducible refine Rets.xcall (c2 _) ?_)
       | (simp -dsimp -implicitDefEqProofs [*]))
theorem big_spec (s t : Bool) (n : Nat) (hn : dl n ≤ 2048) (st : Store) : Rets P F.nat_big [.bool s, intLst t (digs n)] st (.agg [.bool (s && decide (n ≠ 0)), intLst false (digs n)]) := by
  refine H.nat_big.view hmix rfl rfl ?_
  have ht := trim_spec t (digs n) (by unfold dl at hn; omega)
  rw [trimD_digs] at ht
  have hl : (digs n).length ≤ 2048 := hn
  have n1 : ¬ (2048 : Int) < (digs n).length := by omega
  cases s with
  | false =>
    repeat' (first 
     | (with_reducible refine Fresh.intro fun b hb => ?_) <;> (try simp -dsimp -implicitDefEqProofs [*] at hb)
     | (with_reducible refine Rets.xcall (ht _) ?_)
     | (simp -dsimp -implicitDefEqProofs [*]))
    exact .drop (by simp [*]) ⟨rfl, rfl⟩
  | true =>
    by_cases h0 : n = 0
    · subst h0
      rw [digs_zero] at ht n1 ⊢
      repeat' (first 
       | (with_reducible refine Fresh.intro fun b hb => ?_) <;> (try simp -dsimp -implicitDefEqProofs [*] at hb)
       | (with_reducible refine Rets.xcall (ht _) ?_)
       | (simp -dsimp -implicitDefEqProofs [*]))
      exact .drop (by simp [*]) ⟨rfl, rfl⟩
    · have := dl_pos h0
      have h1 : 0 < (digs n).length := this
      repeat' (first 
       | (with_reducible refine Fresh.intro fun b hb => ?_) <;> (try simp -dsimp -implicitDefEqProofs [*] at hb)
       | (with_reducible refine Rets.xcall (ht _) ?_)
       | (simp -dsimp -implicitDefEqProofs [*]))
      exact .drop (by simp [*]) ⟨rfl, rfl⟩
end Go.Proofs.Ytliglilanpfjhaa
