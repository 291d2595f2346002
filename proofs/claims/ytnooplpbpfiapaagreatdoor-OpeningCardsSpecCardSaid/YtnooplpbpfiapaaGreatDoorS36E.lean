/- SHA-256 by the reference. -/
import Derived.Test.YtnooplpbpfiapaaGreatDoorS36A
namespace Go.Proofs.YtnooplpbpfiapaaGreatDoor
open Go.Pv Go.Pv.Sha
set_option maxRecDepth 100000
set_option maxHeartbeats 4000000
theorem z0o (t : Bool) (l : List (BitVec 8)) (hl : l.length ≤ 1000000) (st : q5d) : Rets P F.q3v [q5s t l] st (q5s false (q52 l)) := by
 refine H.q3v.view q5n rfl rfl ?_
 repeat' (first 
  | (with_reducible refine Lit.imm ?_)
  | (simp -dsimp -implicitDefEqProofs [-q5f, *]))
 refine k3j q5z l rfl rfl (by omega) fun o ho hol => ?_
 repeat' (first 
  | (with_reducible refine Lit.imm ?_)
  | (simp -dsimp -implicitDefEqProofs [-q5f, *]))
 refine z42 q5z q5l o ho [0x80#8] rfl rfl (by omega) (by rw [hol]; omega) fun a ha hab hal => ?_
 rw [hol] at hal
 clear hol ho
 repeat' (simp -dsimp -implicitDefEqProofs [-q5f, *])
 refine q5g (fun y : Nat × Acc (BitVec 8) => [(0, q5s t l), (3, .own y.2.b 0 y.2.l.length y.2.cap)]) (fun y => (y.2.b, .arr T.uint8 y.2.R) :: st)
  (fun y => y.1 ≤ q7j l.length ∧ y.2.Ok q5e 1 ∧ q6u st y.2.b ∧ y.2.l = l ++ 0x80#8 :: List.replicate y.1 0#8) (fun y => q7j l.length - y.1) (0, a) ⟨Nat.zero_le _, ha, hab, hal⟩ (by simp [hal]) (.refl _) ?_
 clear hal hab ha
 clear a
 rintro ⟨z, a⟩ ⟨hz, ha, hab, hal⟩
 simp only at hz ha hab hal
 have hz64 : q7j l.length < 64 := Nat.mod_lt _ (by decide)
 have hlen : a.l.length = l.length + 1 + z := by rw [hal]; simp; omega
 have htm : (a.l.length : Int).tmod 64 = ((a.l.length % 64 : Nat) : Int) := by
  rw [Int.tmod_eq_emod_of_nonneg (by omega)]; simp
 have kl : Hid (a.l = l ++ 0x80#8 :: List.replicate z 0#8) := ⟨hal⟩
 clear hal
 by_cases hzl : z < q7j l.length
 ·have hne : ¬ ((a.l.length % 64 : Nat) : Int) = 56 := by have := j0b _ _ hzl; rw [hlen]; omega
  clear hlen
  repeat' (first 
   | (with_reducible refine Lit.imm ?_)
   | (with_reducible refine And.intro (fun h => ?_) (fun h => ?_)) <;> (try (exfalso; omega))
   | (simp -dsimp -implicitDefEqProofs [-q5f, *]))
  refine q7i q5z q5l ha (by simp) [0#8] rfl rfl (by have := kl.out; have := congrArg List.length this; simp at this; omega) fun a' ha' hl' hab' => ?_
  simp -dsimp -implicitDefEqProofs [*] at hab'
  have kl' : Hid (a'.l = l ++ 0x80#8 :: List.replicate (z + 1) 0#8) := ⟨by rw [hl', kl.out, List.replicate_succ']; simp⟩
  clear hl'
  repeat' (simp -dsimp -implicitDefEqProofs [-q5f, *])
  exact Next.intro (z + 1, a') ⟨by simp only; omega, ha', hab', kl'.out⟩ (by simp only; omega) (by simp) q5q
 ·have hze : z = q7j l.length := by omega
  have heq : ((a.l.length % 64 : Nat) : Int) = 56 := by have := k9k l.length; rw [hlen, hze]; omega
  clear hlen hz hzl
  subst hze
  have hb1 : IntKind.u64.wrap (l.length : Int) = (l.length : Int) := q70 (by omega) (by omega)
  have hb2 : IntKind.u64.wrap ((l.length : Int) * 8) = (l.length : Int) * 8 := q70 (by omega) (by omega)
  repeat' (simp -dsimp -implicitDefEqProofs [-q5f, *])
  refine q5g (fun y : Nat × Acc (BitVec 8) => [(0, q5s t l), (3, .own y.2.b 0 y.2.l.length y.2.cap), (4, .val (.int .u64 ((l.length : Int) * 8))), (5, .int (7 - (y.1 : Int)))]) (fun y => (y.2.b, .arr T.uint8 y.2.R) :: st)
   (fun y => y.1 ≤ 8 ∧ y.2.Ok q5e 1 ∧ q6u st y.2.b ∧ y.2.l = l ++ 0x80#8 :: (List.replicate (q7j l.length) 0#8 ++ (q6v 8 (l.length * 8)).take y.1)) (fun y => 8 - y.1) (0, a) ⟨Nat.zero_le _, ha, hab, by rw [kl.out]; simp⟩ (by simp) (.refl _) ?_
  clear kl hab ha heq htm
  clear a
  rintro ⟨k, a⟩ ⟨hk, ha, hab, hal⟩
  simp only at hk ha hab hal
  have kl : Hid (a.l = l ++ 0x80#8 :: (List.replicate (q7j l.length) 0#8 ++ (q6v 8 (l.length * 8)).take k)) := ⟨hal⟩
  have hlen : a.l.length = l.length + 1 + q7j l.length + k := by rw [hal]; simp; omega
  clear hal
  by_cases hkl : k < 8
  ·obtain ⟨j, hj1, hj2⟩ : ∃ j : Nat, (7 : Int) - k = j ∧ k + j = 7 := ⟨7 - k, by omega, by omega⟩
   simp only [hj1]
   have w8 : IntKind.i64.wrap (8 * (j : Int)) = 8 * (j : Int) := q5m (by omega) (by omega)
   have n8 : (8 * (j : Int)).toNat = 8 * j := by omega
   have hs := z81 (l.length * 8) j (by omega)
   rw [show ((l.length * 8 : Nat) : Int) = (l.length : Int) * 8 by omega] at hs
   have wj : IntKind.i64.wrap ((j : Int) - 1) = (j : Int) - 1 := q5m (by omega) (by omega)
   have ht := z48 (n := l.length * 8) hkl
   rw [show 8 - 1 - k = j by omega] at ht
   have kt : Hid ((q6v 8 (l.length * 8)).take (k + 1) = (q6v 8 (l.length * 8)).take k ++ [BitVec.ofNat 8 ((l.length * 8) >>> (8 * j))]) := ⟨ht⟩
   clear ht
   generalize BitVec.ofNat 8 ((l.length * 8) >>> (8 * j)) = x at *
   have hal : a.l.length ≤ 2000000 := by omega
   clear hlen
   repeat' (first 
    | (with_reducible refine Lit.imm ?_)
    | ((with_reducible refine q51 ?_ fun hk => ?_); omega)
    | (simp -dsimp -implicitDefEqProofs [-q5f, *]))
   refine q7i q5z q5l ha (by simp) [x] rfl rfl (by omega) fun a' ha' hl' hab' => ?_
   simp -dsimp -implicitDefEqProofs [*] at hab'
   have kl' : Hid (a'.l = l ++ 0x80#8 :: (List.replicate (q7j l.length) 0#8 ++ (q6v 8 (l.length * 8)).take (k + 1))) := ⟨by rw [hl', kl.out, kt.out]; simp⟩
   clear hl'
   repeat' (simp -dsimp -implicitDefEqProofs [-q5f, *])
   refine Next.intro (k + 1, a') ⟨by simp only; omega, ha', hab', kl'.out⟩ (by simp only; omega) ?_ q5q
   simp
   omega
  ·have hke : k = 8 := by omega
   subst hke
   have kp : Hid (a.l = q52 l) := ⟨by rw [kl.out]; unfold q52; rw [List.take_of_length_le (by simp)]⟩
   clear kl hlen
   repeat' (simp -dsimp -implicitDefEqProofs [-q5f, *])
   exact RetView.accP1 (row := q5e) (T := T.uint8) (o := some a) rfl ⟨ha, hab⟩ (.same ⟨by rw [q7z, kp.out], rfl⟩)
theorem k9o (t : Bool) (l : List (BitVec 8)) (hl : l.length ≤ 1000000) (st : q5d) : Rets P F.q2v [q5s t l] st (.agg (q5e (sum l))) := by
 refine H.q2v.pure q5n rfl rfl ?_
 have hPm := z1s l
 have hPl : (q52 l).length ≤ 1000200 := by
  rw [k60]
  have : q7j l.length < 64 := Nat.mod_lt _ (by decide)
  omega
 have hsum : sum l = (q6q Sha.start (q52 l) ((q52 l).length / 64)).bytes := rfl
 have hpad := fun st => z0o t l hl st
 rw [hsum]
 clear hsum
 generalize q52 l = Z at *
 obtain ⟨N, hN⟩ : ∃ N, Z.length = 64 * N := ⟨Z.length / 64, by omega⟩
 have hN2 : Z.length / 64 = N := by omega
 rw [hN2]
 repeat' (first 
  | (with_reducible refine Fresh.intro fun b hb => ?_) <;> (try simp -dsimp -implicitDefEqProofs [*] at hb)
  | (with_reducible refine Rets.xcall (hpad _) ?_)
  | (simp -dsimp -implicitDefEqProofs [*]))
 clear hpad
 revert b
 intro q hq
 revert b
 intro p hp hq
 refine q5g (fun m : Nat => [(2, .ptr p 0), (3, .ptr q 0), (4, q5s false Z), (5, .int ((64 * m : Nat) : Int))]) (fun m => (q, .arr T.t8uint32 (q6q Sha.start Z m).row) :: (p, .arr T.apiDigest (q5e z32)) :: st) (fun m => m ≤ N) (fun m => N - m) 0 (by omega) (by simp) (.refl _) ?_
 intro m hm
 have hb1 : q6q Sha.start Z (m + 1) = block (q6q Sha.start Z m) ((Z.drop (64 * m)).take 64) := rfl
 by_cases hml : m < N
 ·have hcl : ((Z.drop (64 * m)).take 64).length = 64 := by simp; omega
  have hblk := fun st => z3c (q6q Sha.start Z m) false ((Z.drop (64 * m)).take 64) hcl st
  rw [← hb1] at hblk
  have hck := j27 Z m
  have e1 : q5s false ((Z.drop (64 * m)).take 64) = .list false (((q5e Z).take (64 * m + 64)).drop (64 * m)) 64 := by
   show PV.list false (q5e _) _ = _
   rw [hck, hcl]
  rw [e1] at hblk
  have w64 : IntKind.i64.wrap (((64 * m : Nat) : Int) + 64) = ((64 * m : Nat) : Int) + 64 := q5m (by omega) (by omega)
  have n64 : (((64 * m : Nat) : Int) + 64).toNat = 64 * m + 64 := by omega
  have hmp : 64 * m + 64 ≤ Z.length := by omega
  clear hck e1 hcl hb1
  generalize hS1 : q6q Sha.start Z (m + 1) = S1 at *
  generalize q6q Sha.start Z m = S0 at *
  generalize hM : 64 * m = M at *
  have hMl : (M : Int) < Z.length := by omega
  have hr8 : S1.row.length = 8 := rfl
  repeat' (first 
   | (with_reducible refine Rets.xcall (hblk _) ?_)
   | (with_reducible refine And.intro (fun h => ?_) (fun h => ?_)) <;> (try (exfalso; omega))
   | ((with_reducible refine q51 ?_ fun hk => ?_); omega)
   | (simp -dsimp -implicitDefEqProofs [*]))
  subst hS1
  refine Next.intro (m + 1) (by omega) (by omega) ?_ q5q
  simp
  omega
 ·have e : m = N := by omega
  subst e
  clear hb1 hm hml
  generalize q6q Sha.start Z m = V at *
  repeat' (first 
   | (with_reducible refine Fresh.intro fun b hb => ?_) <;> (try simp -dsimp -implicitDefEqProofs [*] at hb)
   | (simp -dsimp -implicitDefEqProofs [*]))
  revert b
  intro d hd
  refine q5g (fun i : Nat => [(2, .ptr p 0), (3, .ptr q 0), (6, .ptr d 0), (7, .int (i : Nat))]) (fun i => (d, .arr T.apiDigest (q5e (dAt V i))) :: (q, .arr T.t8uint32 V.row) :: (p, .arr T.apiDigest (q5e z32)) :: st) (fun i => i ≤ 32) (fun i => 32 - i) 0 (by omega) (by simp) (.refl _) ?_
  intro i hi
  have hwi := q5h (n := i) (by omega)
  by_cases hil : i < 32
  ·have hset := j95 V hil
   have hq : (i : Int).tdiv 4 = ((i / 4 : Nat) : Int) := by rw [Int.tdiv_eq_ediv_of_nonneg (by omega)]; simp
   have hr : (i : Int).tmod 4 = ((i % 4 : Nat) : Int) := by rw [Int.tmod_eq_emod_of_nonneg (by omega)]; simp
   have ha : i / 4 < 8 := by omega
   have hb : i % 4 < 4 := by omega
   have hg := z3a V ha
   have hdl := k9l V (i := i) (by omega)
   have hwb := z61 (V.words.getD (i / 4) 0) (24 - 8 * (i % 4))
   generalize hB1 : q5e (dAt V (i + 1)) = B1 at *
   have hdl2 : (q5e (dAt V i)).length = 32 := by rw [q5t]; exact hdl
   generalize q5e (dAt V i) = B0 at *
   generalize i / 4 = a at *
   generalize i % 4 = b at *
   obtain ⟨c, hc⟩ : ∃ c : Nat, 24 - 8 * b = c := ⟨_, rfl⟩
   rw [hc] at hset hwb
   have hc2 : (24 : Int) - 8 * (b : Int) = c := by omega
   have wa : IntKind.i64.wrap (a : Int) = a := k33 (by omega)
   have w8 : IntKind.i64.wrap (8 * (b : Int)) = 8 * (b : Int) := q5m (by omega) (by omega)
   have wc : IntKind.i64.wrap (c : Int) = c := k33 (by omega)
   have hcm : min c 32 = c := by omega
   generalize BitVec.ofNat 8 ((V.words.getD a 0).toNat >>> c) = y at *
   generalize V.words.getD a 0 = x at *
   have hgE : ∀ h : a < V.row.length, V.row[a]'h = wv x := fun h => by rw [List.getElem?_eq_getElem h] at hg; exact Option.some.inj hg
   have hsum8 : V.row.length = 8 := rfl
   clear hc
   repeat' (first 
    | (with_reducible refine And.intro (fun h => ?_) (fun h => ?_)) <;> (try (exfalso; omega))
    | ((with_reducible refine q51 ?_ fun hk => ?_); omega)
    | (simp -dsimp -implicitDefEqProofs [*]))
   subst hB1
   exact Next.intro (i + 1) (by omega) (by omega) (by simp) q5q
  ·have e : i = 32 := by omega
   subst e
   clear hi hwi hil
   have hend := z60 V
   rw [hend]
   have hdl : (q5e V.bytes).length = 32 := rfl
   have hsub := sub_all hdl
   have hall : q5i (q5e z32) 0 (q5e V.bytes) = q5e V.bytes := q6e _ _ rfl
   clear hend
   generalize q5e V.bytes = D at *
   repeat' (simp -dsimp -implicitDefEqProofs [*])
abbrev q8m (s : ByteArray) : List (BitVec 8) := s.data.toList.map (·.toBitVec)
theorem k1f (s : ByteArray) : (q8m s).length = s.size := by rw [List.length_map]; rfl
theorem z0p (tag : ByteArray) (htag : tag.size ≤ 1000) (t : Bool) (l : List (BitVec 8)) (hl : l.length ≤ 900000) (st : q5d) : Rets P F.q21 [.str tag, q5s t l] st (.agg (q5e (q7h (q8m tag) l))) := by
 refine H.q21.pure q5n rfl rfl ?_
 have h1 := fun st => k9o false (q8m tag) (by rw [k1f]; omega) st
 have e1 : q5s false (q8m tag) = .list false (k19 tag) tag.size := by
  show PV.list false (q5e _) _ = _
  rw [k2h, k1f]
 rw [e1] at h1
 have hsz : tag.size ≤ 140737488355328 := by omega
 have h2 := fun st => k9o false (sum (q8m tag) ++ l) (by rw [List.length_append, j24]; omega) st
 have hs32 : (q5e (sum (q8m tag))).length = 32 := rfl
 have hsub := sub_all hs32
 have hall : q5i (q5e z32) 0 (q5e (sum (q8m tag))) = q5e (sum (q8m tag)) := q6e _ _ rfl
 have hall2 : ∀ L : List PV, L.length = 32 → q5i L 0 (q5e (q7h (q8m tag) l)) = q5e (q7h (q8m tag) l) := fun L h => q6e _ _ h.symm
 have hs33 : (q5e (q7h (q8m tag) l)).length = 32 := rfl
 have hsub2 := sub_all hs33
 have ht32 : q5e (sum (q8m tag)) = List.take 32 (q5e (sum (q8m tag))) := (List.take_of_length_le (by omega)).symm
 have hty : q7h (q8m tag) l = sum (sum (q8m tag) ++ l) := rfl
 have hs34 : (sum (q8m tag)).length = 32 := rfl
 rw [hty] at hall2 hs33 hsub2 ⊢
 clear hty
 have kt32 : Hid (q5e (sum (q8m tag)) = List.take 32 (q5e (sum (q8m tag)))) := ⟨ht32⟩
 have kh2 : Hid (∀ st, Rets P F.q2v [q5s false (sum (q8m tag) ++ l)] st (.agg (q5e (sum (sum (q8m tag) ++ l))))) := ⟨h2⟩
 clear ht32 h2
 generalize sum (sum (q8m tag) ++ l) = D at *
 generalize sum (q8m tag) = E at *
 repeat' (first 
  | (with_reducible refine Fresh.intro fun b hb => ?_) <;> (try simp -dsimp -implicitDefEqProofs [*] at hb)
  | (with_reducible refine Rets.xcall (h1 _) ?_)
  | (with_reducible refine Lit.imm ?_)
  | (simp -dsimp -implicitDefEqProofs [-q5f, *]))
 refine k3j q5z E kt32.out hs34 (by omega) fun o ho hol => ?_
 repeat' (simp -dsimp -implicitDefEqProofs [-q5f, *])
 refine k50 q5z q5l o ho l rfl rfl (by rw [hol]; omega) fun o' ho' hol' => ?_
 have kh3 : Hid (∀ st, Rets P F.q2v [.list false (q5e (q5y o')) (q5y o').length] st (.agg (q5e D))) := ⟨fun st => by rw [hol', hol]; exact kh2.out st⟩
 clear hol hol' kh2
 repeat' (simp -dsimp -implicitDefEqProofs [-q5f, *])
 refine z99 rfl ho' (kh3.out _) ?_
 clear kh3
 repeat' (simp -dsimp -implicitDefEqProofs [*])
end Go.Proofs.YtnooplpbpfiapaaGreatDoor
