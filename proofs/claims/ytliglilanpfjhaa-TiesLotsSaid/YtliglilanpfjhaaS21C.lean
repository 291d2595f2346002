/- Package nat: digits that are carried. -/
import Derived.Test.YtliglilanpfjhaaS21A
namespace Go.Proofs.Ytliglilanpfjhaa
open Go.Pv
set_option maxRecDepth 100000
theorem at_spec (t : Bool) (L : List Int) (i : Nat) (st : Store) : Rets P F.nat_at [intLst t L, .int i] st (.int (dAt L i)) := by
  refine H.nat_at.pure hmix rfl rfl ?_
  by_cases h : i < L.length
  · have hg := intRow_get L i h
    have e := dAt_lt h
    repeat' (simp -dsimp -implicitDefEqProofs [*])
  · have e := dAt_ge (l := L) (i := i) (by omega)
    repeat' (simp -dsimp -implicitDefEqProofs [*])
theorem carried_own (g : FuncId) (cs : List PV) (f : Nat → Int) (n : Nat) (hn : n ≤ 100000) (st : Store) (hf : ∀ (i : Nat) (st' : Store), i < n → StLe st st' → Rets P g (.int i :: cs) st' (.int (f i)))
    (hb : ∀ i, i < n → -2305843009213693952 ≤ f i ∧ f i ≤ 2305843009213693952) : Owns P T.int F.nat_carried [.int n, .func (.func g) [] cs] st (carD f n).1 := by
  refine H.nat_carried.view hmix rfl rfl ?_
  have kb : Hid (∀ i, i < n → -2305843009213693952 ≤ f i ∧ f i ≤ 2305843009213693952) := ⟨hb⟩
  clear hb
  repeat' (first 
   | (with_reducible refine Fresh.intro fun b hb => ?_) <;> (try simp -dsimp -implicitDefEqProofs [*] at hb)
   | ((with_reducible refine and_keep ?_ fun hk => ?_); omega)
   | (simp -dsimp -implicitDefEqProofs [*]))
  refine xloop_for (fun i : Nat => [(1, .func (.func g) [] cs), (5, .own b 0 n n), (6, .int (carD f i).2), (12, .int n), (13, .int i)]) (fun i => (b, .arr T.int (intRow ((carD f i).1 ++ List.replicate (n - i) 0))) :: st) (fun i => i ≤ n) (fun i => n - i) 0 (by omega) (by simp [carD]) (by simp [carD, intRow]) ?_
  intro i hi
  by_cases hin : i < n
  · have h1 := kb.out i hin
    have h2 := carD_over (f := f) (n := i) fun j hj => kb.out j (by omega)
    have w1 : IntKind.i64.wrap (f i + (carD f i).2) = f i + (carD f i).2 := wrap_in (by omega) (by omega)
    have w2 := wrap_succ (n := i) (by omega)
    have hf1 := fun st' h => hf i st' hin h
    have hf2 : Hid (∀ (i : Nat) (st' : Store), i < n → StLe st st' → Rets P g (.int i :: cs) st' (.int (f i))) := ⟨hf⟩
    clear hf h1 h2
    repeat' (first 
     | (with_reducible refine Rets.xcall (hf1 _ (.fresh hb)) ?_)
     | (simp -dsimp -implicitDefEqProofs [*]))
    refine ⟨by rw [carD_len]; omega, ?_⟩
    rw [carD_store hin]
    exact Next.intro (i + 1) (by omega) (by omega) (by simp [carD_succ, shr30n]) (.refl _)
  · have e : i = n := by omega
    subst e
    clear hf
    have ht := trim_own b i (carD f i).1 [] (by rw [carD_len]; omega) (by rw [carD_len]; omega) ((b, .arr T.int (intRow (carD f i).1)) :: st) (by simp)
    rw [carD_len] at ht
    repeat' (first 
     | (with_reducible refine Rets.xcall (ht) ?_)
     | (simp -dsimp -implicitDefEqProofs [*]))
    exact .same ⟨b, hb, by rw [carD_len], rfl⟩
theorem carried_spec (g : FuncId) (cs : List PV) (f : Nat → Int) (n : Nat) (hn : n ≤ 100000) (st : Store) (hf : ∀ (i : Nat) (st' : Store), i < n → StLe st st' → Rets P g (.int i :: cs) st' (.int (f i)))
    (hb : ∀ i, i < n → -2305843009213693952 ≤ f i ∧ f i ≤ 2305843009213693952) : Rets P F.nat_carried [.int n, .func (.func g) [] cs] st (intLst false (trimD (carD f n).1)) :=
  (carried_own g cs f n hn st hf hb).rets (by rw [carD_len]; omega)
end Go.Proofs.Ytliglilanpfjhaa
/- Package nat: sums, differences, digits moved. -/
namespace Go.Proofs.Ytliglilanpfjhaa
open Go.Pv
set_option maxRecDepth 100000
theorem moved1_spec (p q : Nat) (S T : TypeId) (t : Bool) (a : List Int) (k : Nat) (hk : k < 30) (i : Nat) (st : Store) (hp : sget st p = some (.arr S [intLst t a])) (hq : sget st q = some (.arr T [.int k])) (ha : ∀ i, 0 ≤ dAt a i ∧ dAt a i < 1073741824) :
    Rets P F.nat_moved_1 [.int i, .ptr p 0, .ptr q 0] st (.int (dAt a i * 2 ^ k)) := by
  refine H.nat_moved_1.pure hmix rfl rfl ?_
  have h1 := ha i
  clear ha
  repeat' (first 
   | (with_reducible refine Rets.xcall (at_spec _ _ _ _) ?_)
   | (with_reducible refine DrawLate.intro [] ?_)
   | (simp -dsimp -implicitDefEqProofs [*]))
  have e : min k IntKind.i64.bits = k := Nat.min_eq_left (by show k ≤ 64; omega)
  rw [e]
  have p1 : (2 : Int) ^ k ≤ 2 ^ 29 := by
    have := Nat.pow_le_pow_right (n := 2) (by decide) (show k ≤ 29 by omega)
    exact_mod_cast this
  have p0 : (0 : Int) ≤ 2 ^ k := Int.pow_nonneg (by decide)
  have p2 : dAt a i * 2 ^ k ≤ 1073741824 * 2 ^ 29 := Int.mul_le_mul (by omega) p1 p0 (by decide)
  have p3 : 0 ≤ dAt a i * 2 ^ k := Int.mul_nonneg h1.1 p0
  exact wrap_in (by omega) (by omega)
theorem moved_own (t : Bool) (x : List Int) (k : Nat) (hk : k < 30) (hlx : x.length ≤ 20000) (st : Store) (hx : dOk x) :
    Owns P T.int F.nat_moved [intLst t x, .int k] st (carD (fun i => dAt x i * 2 ^ k) (x.length + 1)).1 := by
  refine H.nat_moved.view hmix rfl rfl ?_
  have hx2 := dAt_ok hx
  unfold BB at hx2
  have w1 := wrap_succ (n := x.length) (by omega)
  repeat' (first 
   | (with_reducible refine Fresh.intro fun b hb => ?_) <;> (try simp -dsimp -implicitDefEqProofs [*] at hb)
   | (simp -dsimp -implicitDefEqProofs [*]))
  revert b
  revert b
  intro p hp q hq
  have p0 : (0 : Int) ≤ 2 ^ k := Int.pow_nonneg (by decide)
  have p1 : (2 : Int) ^ k ≤ 2 ^ 29 := by
    have := Nat.pow_le_pow_right (n := 2) (by decide) (show k ≤ 29 by omega)
    exact_mod_cast this
  have hc := carried_own F.nat_moved_1 [.ptr p 0, .ptr q 0] (fun i => dAt x i * 2 ^ k) (x.length + 1) (by omega) ((q, .arr T.int [.int k]) :: (p, .arr T.natdigits [intLst t x]) :: st)
    (fun i st' hi h => moved1_spec p q T.natdigits T.int t x k hk i st' (h _ _ (by simp [hq])) (h _ _ (by simp)) hx2)
    (fun i _ => by
      have h1 := hx2 i
      have p2 : dAt x i * 2 ^ k ≤ 1073741824 * 2 ^ 29 := Int.mul_le_mul (by omega) p1 p0 (by decide)
      have p3 : 0 ≤ dAt x i * 2 ^ k := Int.mul_nonneg h1.1 p0
      omega)
  clear hx2 p0 p1
  rw [show ((x.length + 1 : Nat) : Int) = (x.length : Int) + 1 from rfl] at hc
  skip
  refine xcall_post hc fun e s ⟨b, hb, he, hs⟩ => ?_
  subst he; subst hs
  simp -dsimp -implicitDefEqProofs [*] at hb
  repeat' (simp -dsimp -implicitDefEqProofs [*])
  refine .drop ?_ ⟨b, by simp [*], rfl, rfl⟩
  exact StLe_same (by repeat' (first | exact StLe.refl _ | (refine StLe_cons (by simp [*]; done) ?_) | (refine StLe_fresh (by simp [*]; done) ?_)))
theorem moved_spec (t : Bool) (x : List Int) (k : Nat) (hk : k < 30) (hlx : x.length ≤ 20000) (st : Store) (hx : dOk x) :
    Rets P F.nat_moved [intLst t x, .int k] st (intLst false (trimD (carD (fun i => dAt x i * 2 ^ k) (x.length + 1)).1)) :=
  (moved_own t x k hk hlx st hx).rets (by rw [carD_len]; omega)
end Go.Proofs.Ytliglilanpfjhaa
