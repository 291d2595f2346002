/- Commitments by the reference. -/
import Derived.Test.YtnooplpbpfiapaaGreatDoorS36Q
namespace Go.Proofs.YtnooplpbpfiapaaGreatDoor
open Go.Pv Go.Pv.Sha
set_option maxRecDepth 100000
set_option maxHeartbeats 4000000
open Go.Pv Go.Pv.Sha
set_option maxRecDepth 100000
set_option maxHeartbeats 4000000
def q7s (l : List Int) (most : Int) : Bool := decide (1 ≤ l.length) && decide (l.length ≤ 64) && l.all (fun n => wi n most)
def y3a (l : List Int) (most : Int) (st : q37) (e : PEnd) (s : q37) : Prop := ∃ x : Int, (0 ≤ x ↔ l.all (fun n => wi n most) = false) ∧ e = .ret (.int x) ∧ s = st
theorem z8a (t : Bool) (l : List Int) (hl : l.length ≤ 100000) (most : Int) (st : q37) : PCalls P F.q00 [q4b t l, .func (.func F.q3d) [] [.iptr [.int most] 0]] st (y3a l most st) := by
 refine H.q00.view q4m rfl rfl ?_
 repeat' (simp -dsimp -implicitDefEqProofs [*])
 refine q4e (fun i : Nat => [(0, q4b t l), (1, .func (.func F.q3d) [] [.iptr [.int most] 0]), (7, .int l.length), (8, .int (i : Nat))]) (fun _ => st) (fun i => i ≤ l.length ∧ ∀ n ∈ l.take i, wi n most = true) (fun i => l.length - i) 0 ⟨by omega, by simp⟩ (by simp) (.refl _) ?_
 rintro i ⟨hi, ha⟩
 have ka : Hid (∀ n ∈ l.take i, wi n most = true) := ⟨ha⟩
 clear ha
 by_cases hil : i < l.length
 ·have hg := q5a l i hil
  have hwi := q4d (n := i) (by omega)
  have kT : Hid (l.take (i + 1) = l.take i ++ [l[i]]) := ⟨List.take_succ_eq_append_getElem hil⟩
  have h1 := fun st => j06 l[i] most st
  cases hw : wi l[i] most with
  | false =>
   have hall : Hid (l.all (fun n => wi n most) = false) := ⟨by rw [List.all_eq_false]; exact ⟨l[i], List.getElem_mem hil, by simp [hw]⟩⟩
   rw [hw] at h1
   repeat' (first 
    | (with_reducible refine Rets.xcall (h1 _) ?_)
    | (simp -dsimp -implicitDefEqProofs [*]))
   exact .same ⟨i, ⟨fun _ => hall.out, fun _ => by omega⟩, rfl, rfl⟩
  | true =>
   have ka3 : Hid (∀ x ∈ l.take (i + 1), wi x most = true) := ⟨by
    rw [kT.out]
    intro x hx
    rcases List.mem_append.1 hx with hx | hx
    ·exact ka.out x hx
    ·obtain rfl : x = l[i] := by simpa using hx
     exact hw⟩
   rw [hw] at h1
   repeat' (first 
    | (with_reducible refine Rets.xcall (h1 _) ?_)
    | (simp -dsimp -implicitDefEqProofs [*]))
   exact Next.intro (i + 1) ⟨by omega, ka3.out⟩ (by omega) (by simp) q4p
 ·have e : i = l.length := by omega
  subst e
  rw [List.take_length] at ka
  have hA : Hid (l.all (fun n => wi n most) = true) := ⟨List.all_eq_true.2 ka.out⟩
  clear ka
  repeat' (simp -dsimp -implicitDefEqProofs [*])
  exact .same ⟨-1, ⟨fun h => absurd h (by decide), fun h => by rw [hA.out] at h; cases h⟩, rfl, rfl⟩
theorem z1b (t : Bool) (l : List Int) (hl : l.length ≤ 100000) (most : Int) (st : q37) : Rets P F.q0m [q4b t l, .func (.func F.q3d) [] [.iptr [.int most] 0]] st (.bool (!l.all (fun n => wi n most))) := by
 refine H.q0m.pure q4m rfl rfl ?_
 have hi := fun st => z8a t l hl most st
 generalize hA : l.all (fun n => wi n most) = A at *
 repeat' (simp -dsimp -implicitDefEqProofs [*])
 refine q4w (hi _) ?_
 rintro e s ⟨x, hx, rfl, rfl⟩
 rw [q6t]
 rw [hA] at hx
 clear hi hA
 cases A with
 | true =>
  have h : ¬ 0 ≤ x := fun h => by have := hx.1 h; cases this
  clear hx
  repeat' (simp -dsimp -implicitDefEqProofs [*])
 | false =>
  have h : 0 ≤ x := hx.2 rfl
  clear hx
  repeat' (simp -dsimp -implicitDefEqProofs [*])
theorem k0m (t : Bool) (l : List Int) (hl : l.length ≤ 100000) (most : Int) (st : q37) : Rets P F.q3i [q4b t l, .int most] st (.bool (q7s l most)) := by
 refine H.q3i.pure q4m rfl rfl ?_
 have hw1 : IntKind.i64.wrap ((l.length : Int) - 1) = (l.length : Int) - 1 := q4h (by omega) (by omega)
 have hwi := fun st => q7b ((l.length : Int) - 1) 63 st
 have hcc := fun st => z1b t l hl most st
 have hE : q7s l most = (wi ((l.length : Int) - 1) 63 && l.all (fun n => wi n most)) := by
  unfold q7s
  congr 1
  simp only [wi]
  congr 1 <;> exact decide_eq_decide.2 (by omega)
 rw [hE]
 clear hE
 generalize l.all (fun n => wi n most) = A at *
 cases hb : wi ((l.length : Int) - 1) 63 with
 | false =>
  rw [hb] at hwi
  clear hcc
  repeat' (first 
   | (with_reducible refine Fresh.intro fun b hb => ?_) <;> (try simp -dsimp -implicitDefEqProofs [*] at hb)
   | (with_reducible refine Rets.xcall (hwi _) ?_)
   | (simp -dsimp -implicitDefEqProofs [*]))
 | true =>
  rw [hb] at hwi
  repeat' (first 
   | (with_reducible refine Fresh.intro fun b hb => ?_) <;> (try simp -dsimp -implicitDefEqProofs [*] at hb)
   | (with_reducible refine Rets.xcall (hwi _) ?_)
   | (simp -dsimp -implicitDefEqProofs [*]))
  refine k3s ‹_› (.refl _) (.cons (.refl _) (.cons (.func _ .nil (.cons (.ptr _ _ 0 rfl) .nil)) .nil)) (hcc _) ?_
  rw [q6t]
  clear hcc hwi
  repeat' (simp -dsimp -implicitDefEqProofs [*])
open Go.Pv Go.Pv.Sha
set_option maxRecDepth 100000
set_option maxHeartbeats 4000000
abbrev QI : Int := 1073741789
theorem z8b (x y : Int) (hx : 0 ≤ x) (hx2 : x < 2000000000) (hy : 0 ≤ y) (hy2 : y < 2000000000) (st : q37) : Rets P F.q3f [.int x, .int y] st (.int ((x + y) % QI)) := by
 refine H.q3f.pure q4m rfl rfl ?_
 have w1 : IntKind.i64.wrap (x + y) = x + y := q4h (by omega) (by omega)
 have e : (x + y).tmod 1073741789 = (x + y) % QI := Int.tmod_eq_emod_of_nonneg (by omega)
 have q0 : 0 ≤ (x + y) % QI := Int.emod_nonneg _ (by decide)
 have q1 : (x + y) % QI < 1073741789 := Int.emod_lt_of_pos _ (by decide)
 have w2 : IntKind.i64.wrap ((x + y) % QI) = (x + y) % QI := q4h (by omega) (by omega)
 repeat' (simp -dsimp -implicitDefEqProofs [*])
def j8b (c k : Int) : Int := if c < k then c + QI - k else c - k
theorem z8c (x y : Int) (hx : 0 ≤ x) (hx2 : x < 2000000000) (hy : 0 ≤ y) (hy2 : y < 2000000000) (st : q37) : Rets P F.q3g [.int x, .int y] st (.int (j8b x y)) := by
 refine H.q3g.pure q4m rfl rfl ?_
 have w1 : IntKind.i64.wrap (x + 1073741789) = x + 1073741789 := q4h (by omega) (by omega)
 have w2 : IntKind.i64.wrap (x + 1073741789 - y) = x + 1073741789 - y := q4h (by omega) (by omega)
 have w3 : IntKind.i64.wrap (x - y) = x - y := q4h (by omega) (by omega)
 by_cases h : x < y
 ·have e : j8b x y = x + 1073741789 - y := if_pos h
  repeat' (simp -dsimp -implicitDefEqProofs [*])
 ·have e : j8b x y = x - y := if_neg h
  repeat' (simp -dsimp -implicitDefEqProofs [*])
theorem z6v (g : FuncId) (f : Int → Int → Int) (t u : Bool) (l m : List Int) (hl : l.length ≤ 1000) (hm : l.length = m.length) (hf : ∀ (i : Nat) (h : i < l.length) (st : q37), Rets P g [.int l[i], .int (m[i]'(by omega))] st (.int (f l[i] (m[i]'(by omega))))) (st : q37) :
  Rets P F.q05 [q4b t l, q4b u m, .func (.func g) [] []] st (q4b false (List.zipWith f l m)) := by
 refine H.q05.view q4m rfl rfl ?_
 repeat' (simp -dsimp -implicitDefEqProofs [-q39, *])
 refine q4e (fun y : Nat × Option (Acc Int) => [(1, q4b u m), (2, .func (.func g) [] []), (6, k1e y.2), (9, q4b t l), (10, .int l.length), (11, .int (y.1 : Nat))]) (fun y => q6c T.int st y.2) (fun y => y.1 ≤ l.length ∧ accOk q43 1 st y.2 ∧ q5c y.2 = (List.zipWith f l m).take y.1) (fun y => l.length - y.1) (0, none) ⟨by omega, trivial, rfl⟩ (by simp; omega) (.refl _) ?_
 rintro ⟨i, o⟩ ⟨hi, ho, hol⟩
 simp only at hi ho hol
 have kl : Hid (q5c o = (List.zipWith f l m).take i) := ⟨hol⟩
 clear hol
 by_cases hil : i < l.length
 ·have him : i < m.length := by omega
  have hg := q5a l i hil
  have hg2 := q5a m i him
  have hwi := q4d (n := i) (by omega)
  have hz : i < (List.zipWith f l m).length := by rw [List.length_zipWith]; omega
  have kT : Hid ((List.zipWith f l m).take (i + 1) = (List.zipWith f l m).take i ++ [f l[i] m[i]]) := ⟨by rw [List.take_succ_eq_append_getElem hz, List.getElem_zipWith]⟩
  have hf1 := fun st => hf i hil st
  have kn : Hid ((q5c o).length ≤ 1000) := ⟨by rw [kl.out, List.length_take]; omega⟩
  clear hf
  repeat' (first 
   | (with_reducible refine Rets.xcall (hf1 _) ?_)
   | (with_reducible refine Lit.imm ?_)
   | (simp -dsimp -implicitDefEqProofs [-q39, *]))
  refine q6a k9k k3u o ho [f l[i] m[i]] rfl rfl (by have := kn.out; omega) fun o' ho' hl' => ?_
  have kl' : Hid (q5c o' = (List.zipWith f l m).take (i + 1)) := ⟨by rw [hl', kl.out, kT.out]⟩
  clear hl' kl kT
  repeat' (simp -dsimp -implicitDefEqProofs [-q39, *])
  exact Next.intro (i + 1, o') ⟨by simp only; omega, ho', kl'.out⟩ (by simp only; omega) (by simp; omega) q4p
 ·have e : i = l.length := by omega
  have kl' : Hid (q5c o = List.zipWith f l m) := ⟨by rw [kl.out]; exact List.take_of_length_le (by rw [List.length_zipWith]; omega)⟩
  subst e
  clear kl hf
  repeat' (simp -dsimp -implicitDefEqProofs [-q39, *])
  exact RetView.accP1 rfl ho (.same ⟨by rw [kl'.out], rfl⟩)
open Go.Pv Go.Pv.Sha
set_option maxRecDepth 100000
set_option maxHeartbeats 4000000
end Go.Proofs.YtnooplpbpfiapaaGreatDoor
