/- OpeningOpens: the walk. -/
import Derived.Test.YtnooplpbpfiapaaGreatDoorG36DQ
namespace Go.Proofs.YtnooplpbpfiapaaGreatDoor
open Go.Pv Go.Pv.Ip
set_option maxRecDepth 100000
set_option maxHeartbeats 16000000
theorem z5y (J : List Int) (hJl : J.length ≤ 9223372036854775807) (cr nd : Int) (hcr : 0 ≤ cr ∧ cr < 256) (hnd : 0 ≤ nd ∧ nd < 256) (mk kk : List (List Int)) (sa : List Dig) (mo : List (List (List Int))) (ord : List (BitVec 8)) (hol : ord.length ≤ 9223372036854775807) (sh gv : Int) (st : q37) (hG : GL st) :
  Rets P F.q0u [q4b false J, .val (.int .u8 cr), .val (.int .u8 nd), y6w mk kk sa mo, .list false (q38 ord) ord.length, .val (.int .u8 sh), .val (.int .u8 gv)] st (.bool true) := by
 have hN := q46 hG.h0 hG.h1
 have h0 := hG.h0
 have h1 := hG.h1
 have cs := fun st h0 h1 => z5t st ⟨h0, h1⟩
 have w1 : IntKind.i64.wrap cr = cr := q4h (by omega) (by omega)
 have w2 : IntKind.i64.wrap nd = nd := q4h (by omega) (by omega)
 have b1 := Int.tmod_nonneg (3 : Int) hcr.1
 have b2 := Int.tmod_lt_of_pos cr (b := (3 : Int)) (by decide)
 obtain ⟨C, hC⟩ : ∃ C : Nat, 1 + cr.tmod 3 = C := ⟨(1 + cr.tmod 3).toNat, by omega⟩
 have w3 : IntKind.i64.wrap (cr.tmod 3) = cr.tmod 3 := q4h (by omega) (by omega)
 have w4 : IntKind.i64.wrap (1 + cr.tmod 3) = C := by rw [hC]; exact q4h (by omega) (by omega)
 have hC3 : 1 ≤ C ∧ C ≤ 3 := by omega
 by_cases hn : 2 ≤ J.length ∧ J.length ≤ 5
 case neg =>
  clear hG
  refine H.q0u.view q4m rfl rfl ?_
  repeat' (first 
   | (with_reducible refine Fresh.intro fun b hb => ?_) <;> (try simp -dsimp -implicitDefEqProofs [*] at hb)
   | (with_reducible refine Rets.xcall (cs _ (by simp [*]) (by simp [*])) ?_)
   | (with_reducible refine And.intro (fun h => ?_) (fun h => ?_)) <;> (try (exfalso; omega))
   | (simp -dsimp -implicitDefEqProofs [*]))
  all_goals first | exact RetView.drop (st' := st) q4p ⟨rfl, rfl⟩ | (exfalso; omega)
 have b3 := Int.tmod_nonneg ((J.length : Int) - 1) hnd.1
 have b4 := Int.tmod_lt_of_pos nd (b := ((J.length : Int) - 1)) (by omega)
 have w5 : IntKind.i64.wrap ((J.length : Int) - 1) = (J.length : Int) - 1 := q4h (by omega) (by omega)
 obtain ⟨m, hm⟩ : ∃ m : Nat, 1 + nd.tmod ((J.length : Int) - 1) = m := ⟨(1 + nd.tmod ((J.length : Int) - 1)).toNat, by omega⟩
 have w6 : IntKind.i64.wrap (nd.tmod ((J.length : Int) - 1)) = nd.tmod ((J.length : Int) - 1) := q4h (by omega) (by omega)
 have w7 : IntKind.i64.wrap (1 + nd.tmod ((J.length : Int) - 1)) = m := by rw [hm]; exact q4h (by omega) (by omega)
 have hm5 : 1 ≤ m ∧ m + 1 ≤ J.length := by omega
 have hz1 : ¬ (J.length : Int) - 1 = 0 := by omega
 have hz2 : ¬ (J.length : Int) - 1 = -1 := by omega
 have p1 := fun st h0 h1 => k7w 1 2 C J m 100 (by omega) (by omega) (by omega) st ⟨h0, h1⟩
 clear hC b1 b2 b3 b4 hm
 by_cases hR : q5f (z1m 1 2 C J m 100) = true
 case neg =>
  rw [if_neg hR, if_neg hR] at p1
  clear hG
  refine H.q0u.view q4m rfl rfl ?_
  repeat' (first 
   | (with_reducible refine Fresh.intro fun b hb => ?_) <;> (try simp -dsimp -implicitDefEqProofs [*] at hb)
   | (with_reducible refine Rets.xcall (cs _ (by simp [*]) (by simp [*])) ?_)
   | (with_reducible refine Rets.xcall (p1 _ (by simp [*]) (by simp [*])) ?_)
   | (with_reducible refine And.intro (fun h => ?_) (fun h => ?_)) <;> (try (exfalso; omega))
   | (simp -dsimp -implicitDefEqProofs [*]))
  all_goals first | exact RetView.drop (st' := st) q4p ⟨rfl, rfl⟩ | (exfalso; omega)
 rw [if_pos hR, if_pos hR] at p1
 have fs := fun r hr => j19 mk kk sa mo J.length C m hn.2 hC3.2 (by omega) r hr
 by_cases hF : Fits mk kk sa mo J.length C m
 case neg =>
  replace fs := fs false ⟨fun h => absurd h (by simp), fun h => absurd h hF⟩
  clear hG hF hR
  refine H.q0u.view q4m rfl rfl ?_
  repeat' (first 
   | (with_reducible refine Fresh.intro fun b hb => ?_) <;> (try simp -dsimp -implicitDefEqProofs [*] at hb)
   | (with_reducible refine Rets.xcall (cs _ (by simp [*]) (by simp [*])) ?_)
   | (with_reducible refine Rets.xcall (p1 _ (by simp [*]) (by simp [*])) ?_)
   | (with_reducible refine Rets.xcall (fs _) ?_)
   | (with_reducible refine And.intro (fun h => ?_) (fun h => ?_)) <;> (try (exfalso; omega))
   | (simp -dsimp -implicitDefEqProofs [*]))
  all_goals first | exact RetView.drop (st' := st) q4p ⟨rfl, rfl⟩ | (exfalso; omega)
 replace fs := fs true ⟨fun _ => hF, fun _ => rfl⟩
 have hO := Hid.mk (j43 hn hC3 hm5 hR hF)
 have hf := hF.l
 replace hF := Hid.mk hF
 clear hR hG
 refine H.q0u.view q4m rfl rfl ?_
 repeat' (first 
  | (with_reducible refine Fresh.intro fun b hb => ?_) <;> (try simp -dsimp -implicitDefEqProofs [*] at hb)
  | (with_reducible refine Rets.xcall (cs _ (by simp [*]) (by simp [*])) ?_)
  | (with_reducible refine Rets.xcall (p1 _ (by simp [*]) (by simp [*])) ?_)
  | (with_reducible refine Rets.xcall (fs _) ?_)
  | (with_reducible refine And.intro (fun h => ?_) (fun h => ?_)) <;> (try (exfalso; omega))
  | ((with_reducible refine q4t ?_ fun hk => ?_); omega)
  | (simp -dsimp -implicitDefEqProofs [*]))
 revert b; intro b3 hb3
 rename_i b1 hb1 _ _
 clear cs p1 fs w1 w2 w3 w4 w5 w6 w7 hz1 hz2 hcr hnd
 refine q4e (fun y : Nat × List Nat => [(0, q4b false J), (4, .list false (q38 ord) ord.length), (5, .val (.int .u8 sh)), (6, .val (.int .u8 gv)), (10, .ptr b1 0), (15, .int J.length), (16, .int C), (17, .int m), (18, .ptr b 0), (20, .own b3 0 J.length J.length), (96, .int J.length), (97, .int y.1)]) (fun y => (b3, .arr T.int (z1z y.2)) :: (b, .arr T.apiSession (z1m 1 2 C J m 100).enc) :: (b1, .arr T.q30 [LL mk, LL kk, DD sa, LLL mo]) :: st) (fun y => y.1 ≤ J.length ∧ y.2.length = J.length ∧ Hid (∀ i (h : i < y.2.length), i < y.1 → y.2[i] = i)) (fun y => J.length - y.1) (0, List.replicate J.length 0) ⟨Nat.zero_le _, List.length_replicate .., ⟨fun i _ h => absurd h (Nat.not_lt_zero i)⟩⟩ (by simp) (by simp [z1z]) ?_
 rintro ⟨i, V⟩ ⟨hi, hV, hI⟩
 replace hi : i ≤ J.length := hi
 replace hV : V.length = J.length := hV
 replace hI : Hid (∀ j (h : j < V.length), j < i → V[j] = j) := hI
 simp only
 by_cases hil : i < J.length
 ·have hwi := q4d (n := i) (by omega)
  have hs := z1x V i i
  have hI2 : Hid (∀ j (h : j < (V.set i i).length), j < i + 1 → (V.set i i)[j] = j) := ⟨fun j h hj => by
   rw [List.getElem_set]
   split
   ·omega
   ·exact hI.out j _ (by omega)⟩
  have hV2 : (V.set i i).length = J.length := by rw [List.length_set, hV]
  clear hI
  repeat' (first 
   | ((with_reducible refine q4t ?_ fun hk => ?_); omega)
   | (simp -dsimp -implicitDefEqProofs [*]))
  exact Next.intro (i + 1, V.set i i) ⟨by simp only; omega, hV2, hI2⟩ (by simp only; omega) (by simp [*]) q4p
 obtain rfl : i = J.length := by omega
 have hVr : V = List.range J.length := List.ext_getElem (by rw [hV, List.length_range]) fun k k1 k2 => by rw [List.getElem_range]; exact hI.out k k1 (by omega)
 subst hVr
 clear hI hV hi hil
 have hP0 := Hid.mk (z83 J.length)
 repeat' (simp -dsimp -implicitDefEqProofs [*])
 refine q4e (fun y : Nat × List Nat => [(0, q4b false J), (5, .val (.int .u8 sh)), (6, .val (.int .u8 gv)), (10, .ptr b1 0), (15, .int J.length), (16, .int C), (17, .int m), (18, .ptr b 0), (20, .own b3 0 J.length J.length), (105, .list false (q38 ord) ord.length), (106, .int ord.length), (107, .int y.1)]) (fun y => (b3, .arr T.int (z1z y.2)) :: (b, .arr T.apiSession (z1m 1 2 C J m 100).enc) :: (b1, .arr T.q30 [LL mk, LL kk, DD sa, LLL mo]) :: st) (fun y => y.1 ≤ ord.length ∧ y.2.length = J.length ∧ Hid (Perm J.length y.2)) (fun y => ord.length - y.1) (0, List.range J.length) ⟨Nat.zero_le _, List.length_range .., hP0⟩ (by simp) (.refl _) ?_
 rintro ⟨i, V⟩ ⟨hi, hV, hI⟩
 replace hi : i ≤ ord.length := hi
 replace hV : V.length = J.length := hV
 replace hI : Hid (Perm J.length V) := hI
 simp only
 by_cases hil : i < ord.length
 ·have hwi := q4d (n := i) (by omega)
  have g1 := k7b ord i hil
  have G1 : ∀ h, (q38 ord)[i]'h = bv ord[i] := fun h => z2z ord i h
  obtain ⟨k, hk⟩ : ∃ k : Nat, u8 ord[i] = (k : Int) ∧ k < 256 := ⟨ord[i].toNat, by simp [u8], ord[i].isLt⟩
  obtain ⟨x, hx⟩ : ∃ x, x = ord[i] := ⟨_, rfl⟩
  rw [← hx] at hk g1
  simp only [← hx] at G1
  clear hx
  by_cases hin : i < J.length
  ·have hwd : IntKind.i64.wrap ((J.length : Int) - i) = ((J.length - i : Nat) : Int) := by rw [q4h (by omega) (by omega)]; omega
   obtain ⟨d, hd⟩ : ∃ d, d = J.length - i := ⟨_, rfl⟩
   rw [← hd] at hwd
   have q1 := Int.tmod_nonneg (d : Int) (a := (k : Int)) (by omega)
   have q2 := Int.tmod_lt_of_pos (k : Int) (b := (d : Int)) (by omega)
   obtain ⟨q, hq⟩ : ∃ q : Nat, (k : Int).tmod d = q := ⟨((k : Int).tmod d).toNat, by omega⟩
   have hd0 : ¬ d = 0 := by omega
   have hwk : IntKind.i64.wrap (k : Int) = k := q4h (by omega) (by omega)
   have hwq : IntKind.i64.wrap (q : Int) = q := q4h (by omega) (by omega)
   obtain ⟨a, ha⟩ : ∃ a, a = i + q := ⟨_, rfl⟩
   have hwa : IntKind.i64.wrap ((i : Int) + q) = (a : Int) := by rw [q4h (by omega) (by omega)]; omega
   have haJ : a < J.length := by omega
   have i1 : i < V.length := by omega
   have a1 : a < V.length := by omega
   have v1 := z67 V i i1
   have v2 := z67 V a a1
   have V1 : ∀ h, (z1z V)[i]'h = .int (V[i] : Nat) := fun h => z3g V i h
   have V2 : ∀ h, (z1z V)[a]'h = .int (V[a] : Nat) := fun h => z3g V a h
   have hS := Hid.mk (hI.out.swap i1 a1)
   have s1 := z1x V i V[a]
   have s2 := z1x (V.set i V[a]) a V[i]
   have hV2 : ((V.set i V[a]).set a V[i]).length = J.length := by rw [List.length_set, List.length_set, hV]
   clear q1 q2 hI ha hd
   repeat' (first 
    | (with_reducible refine DrawLate.intro [] ?_)
    | ((with_reducible refine q4t ?_ fun hk => ?_); omega)
    | (simp -dsimp -implicitDefEqProofs [*]))
   exact Next.intro (i + 1, (V.set i V[a]).set a V[i]) ⟨by simp only; omega, hV2, hS⟩ (by simp only; omega) (by simp [*]) q4p
  ·repeat' (simp -dsimp -implicitDefEqProofs [*])
   exact Next.intro (i + 1, V) ⟨by simp only; omega, hV, hI⟩ (by simp only; omega) (by simp [*]) q4p
 obtain rfl : i = ord.length := by omega
 clear hi hil
 replace hV := Hid.mk hV
 have e0 := Hid.mk (z8y hO.out V)
 repeat' (simp -dsimp -implicitDefEqProofs [*])
 obtain ⟨Z, hZ⟩ : ∃ Z, Z = (q6e J C m mk kk sa mo).ses [] [] [] := ⟨_, rfl⟩
 replace hZ := Hid.mk hZ
 refine q4e (fun y : Nat × List Card × Ses => [(0, q4b false J), (5, .val (.int .u8 sh)), (6, .val (.int .u8 gv)), (10, .ptr b1 0), (15, .int J.length), (16, .int C), (17, .int m), (18, .ptr b 0), (138, .own b3 0 J.length J.length), (139, .int J.length), (140, .int y.1)]) (fun y => (b3, .arr T.int (z1z V)) :: (b, .arr T.apiSession y.2.2.enc) :: (b1, .arr T.q30 [LL mk, LL kk, DD sa, LLL mo]) :: st) (fun y => y.1 ≤ J.length ∧ Hid (SealI (q6e J C m mk kk sa mo) V y.1 y.2.1) ∧ Hid (y.2.2 = (q6e J C m mk kk sa mo).ses y.2.1 [] [])) (fun y => J.length - y.1) (0, [], Z) ⟨Nat.zero_le _, e0, hZ⟩ (by simp) (by simp only [hZ.out]; exact .refl _) ?_
 clear hZ e0
 rintro ⟨i, l, Z⟩ ⟨hi, hJ, hZ⟩
 replace hi : i ≤ J.length := hi
 replace hJ : Hid (SealI (q6e J C m mk kk sa mo) V i l) := hJ
 replace hZ : Hid (Z = (q6e J C m mk kk sa mo).ses l [] []) := hZ
 simp only
 by_cases hil : i < J.length
 ·have hiV : i < V.length := by rw [hV.out]; exact hil
  have hwi := q4d (n := i) (by omega)
  have H0 := z84 hO.out hF.out hI.out hJ.out hil
  obtain ⟨t, l2, j, M, K, S, x, Z0, Z2, c⟩ := H0
  have hzz : Z = Z0 := hZ.out.trans c.z.symm
  subst hzz
  have v1 := j84 c.av
  have V1 := q7p v1
  have j1 := z1v c.aj
  have J1 := q7p j1
  have m1 := k94 c.am
  have M1 := q7p m1
  have k1 := k94 c.ak
  have K1 := q7p k1
  have s1 := j2g c.ad
  have tJ := q64 c.aj
  have t1 : t < mk.length := q64 c.am
  have t2 : t < kk.length := q64 c.ak
  have t3 : t < sa.length := q64 c.ad
  have t4 : t * 32 < sa.length * 32 := by omega
  have g1 := c.gate
  have g2 := c.make
  have g3 := c.act
  simp only [List.cons_append, List.nil_append] at g3
  have hlen : (Z2.sealed.length : Int) = i + 1 := by rw [c.len]; rfl
  have hz2 := Hid.mk c.z2
  have hin := Hid.mk c.inv
  clear c hI hJ hF hO hZ
  repeat' (first 
   | (with_reducible refine Rets.xcall (g1 _ (by simp [*]) (by simp [*])) ?_)
   | (with_reducible refine DrawLate.intro [] ?_)
   | (simp -dsimp -implicitDefEqProofs [*]))
  refine q99 g2 (by simp [*]) (by simp [*]) (by simp) (by simp) ?_
  clear g2
  repeat' (first 
   | (with_reducible refine Fresh.intro fun b hb => ?_) <;> (try simp -dsimp -implicitDefEqProofs [*] at hb)
   | (with_reducible refine Rets.xcall (g3 _ (by simp [*]) (by simp [*])) ?_)
   | (with_reducible refine k4r ?_ ?_)
   | (with_reducible exact Cls.self _ _)
   | (with_reducible refine q84 ?_ ?_)
   | (simp -dsimp -implicitDefEqProofs [*]))
  exact Next.intro (i + 1, l2, Z2) ⟨by simp only; omega, hin, hz2⟩ (by simp only; omega) (by simp [*]) q4p
 have hie : i = J.length := by omega
 subst hie
 have hA := Hid.mk (hJ.out.all hI.out)
 have hg := j44 hO.out hA.out
 have H0 : ∃ p, Hid (PanH J C m mk kk sa mo l p) ∧ Hid (Z = p.ses l [] []) ∧ Hid (GiveI p (q9s sh) (q9s gv) l 0 0 0 0 [] []) := ⟨_, ⟨⟨rfl, hO.out, hF.out, hA.out⟩⟩, hZ, ⟨z8z hA.out⟩⟩
 rw [← hZ.out] at hg
 clear hJ hI hi hil hV hZ hO hF hA
 obtain ⟨p, hp, hZ, e0⟩ := H0
 repeat' (first 
  | (with_reducible refine Rets.xcall (hg _ (by simp [*]) (by simp [*])) ?_)
  | (simp -dsimp -implicitDefEqProofs [*]))
 clear hg
 refine q4e (fun y : Nat × List Shn × List Sh × Ses => [(0, q4b false J), (5, .val (.int .u8 sh)), (6, .val (.int .u8 gv)), (10, .ptr b1 0), (15, .int J.length), (16, .int C), (17, .int m), (18, .ptr b 0), (214, q4b false J), (215, .int J.length), (216, .int y.1)]) (fun y => (b, .arr T.apiSession y.2.2.2.enc) :: (b1, .arr T.q30 [LL mk, LL kk, DD sa, LLL mo]) :: st) (fun y => y.1 ≤ J.length ∧ Hid (GiveI p (q9s sh) (q9s gv) l y.1 y.1 0 0 y.2.1 y.2.2.1) ∧ Hid (y.2.2.2 = p.ses l y.2.1 y.2.2.1)) (fun y => J.length - y.1) (0, [], [], Z) ⟨Nat.zero_le _, e0, hZ⟩ (by simp) q4p ?_
 clear hZ hb3 e0
 rintro ⟨k, Sw, K, Z⟩ ⟨hk, hJ, hZ⟩
 replace hk : k ≤ J.length := hk
 replace hJ : Hid (GiveI p (q9s sh) (q9s gv) l k k 0 0 Sw K) := hJ
 replace hZ : Hid (Z = p.ses l Sw K) := hZ
 simp only
 by_cases hkl : k < J.length
 ·have hwk := q4d (n := k) (by omega)
  have bs := k6g sh k
  have bg := k6g gv k
  have H0 := z88 hp.out hkl hJ.out hZ.out
  obtain ⟨jk, Kk, Sk, Sw1, Z1, hjk, j1, m1, s1, hS32, t2, t3, hZ1, hI1, hW⟩ := H0
  have J1 := q7p j1
  have M1 := q7p m1
  have t4 : k * 32 < sa.length * 32 := by omega
  clear hJ hZ
  have H1 := z1y gv k
  rcases H1 with hg | hg
  ·have e := Hid.mk (hI1.out.skipK (by unfold q9s; rw [hg]; rfl))
   clear hI1
   rcases hW with ⟨hs, hzz⟩ | ⟨hs, cW⟩
   ·subst hzz
    repeat' (simp -dsimp -implicitDefEqProofs [*])
    exact Next.intro (k + 1, Sw1, K, Z1) ⟨by simp only; omega, e, hZ1⟩ (by simp only; omega) (by simp [*]) q4p
   ·repeat' (first 
     | (with_reducible refine DrawLate.intro [] ?_)
     | (simp -dsimp -implicitDefEqProofs [setCells_two, *]))
    refine q99 cW (by simp [*]) (by simp [*]) (by simp) (by simp) ?_
    clear cW
    repeat' (first 
     | (with_reducible refine Fresh.intro fun b hb => ?_) <;> (try simp -dsimp -implicitDefEqProofs [*] at hb)
     | (with_reducible refine k4r ?_ ?_)
     | (with_reducible exact Cls.self _ _)
     | (with_reducible refine q84 ?_ ?_)
     | (simp -dsimp -implicitDefEqProofs [*]))
    exact Next.intro (k + 1, Sw1, K, Z1) ⟨by simp only; omega, e, hZ1⟩ (by simp only; omega) (by simp [*]) q4p
  rcases hW with ⟨hs, hzz⟩ | ⟨hs, cW⟩
  ·subst hzz
   repeat' (simp -dsimp -implicitDefEqProofs [*])
   clear bs bg m1 M1 s1 t2 t3 t4 hS32 hs
   refine q4e (fun y : Nat × List Sh × Ses => [(0, q4b false J), (5, .val (.int .u8 sh)), (6, .val (.int .u8 gv)), (10, .ptr b1 0), (15, .int J.length), (16, .int C), (17, .int m), (18, .ptr b 0), (35, .int k), (36, .int jk), (214, q4b false J), (215, .int J.length), (216, .int k), (252, q4b false J), (253, .int J.length), (254, .int y.1)]) (fun y => (b, .arr T.apiSession y.2.2.enc) :: (b1, .arr T.q30 [LL mk, LL kk, DD sa, LLL mo]) :: st) (fun y => y.1 ≤ J.length ∧ Hid (GiveI p (q9s sh) (q9s gv) l k (k + 1) y.1 0 Sw1 y.2.1) ∧ Hid (y.2.2 = p.ses l Sw1 y.2.1)) (fun y => J.length - y.1) (0, K, Z1) ⟨Nat.zero_le _, hI1, hZ1⟩ (by simp) q4p ?_
   clear hZ1 hI1
   rintro ⟨a, K, Z⟩ ⟨ha, hJ, hZ⟩
   replace ha : a ≤ J.length := ha
   replace hJ : Hid (GiveI p (q9s sh) (q9s gv) l k (k + 1) a 0 Sw1 K) := hJ
   replace hZ : Hid (Z = p.ses l Sw1 K) := hZ
   simp only
   by_cases hal : a < J.length
   case neg =>
    have hae : a = J.length := by omega
    subst hae
    have e := Hid.mk (GiveI.nextK (p := p) (by rw [hp.out.j]; exact hJ.out) (by rw [hp.out.j]; exact hn.2))
    clear hJ
    repeat' (simp -dsimp -implicitDefEqProofs [*])
    exact Next.intro (k + 1, Sw1, K, Z) ⟨by simp only; omega, e, hZ⟩ (by simp only; omega) (by simp) q4p
   have hwa := q4d (n := a) (by omega)
   have H0 := z3h hp.out hal hkl hjk.out
   obtain ⟨ja, hja, a1, hjj⟩ := H0
   have A1 := q7p a1
   repeat' (simp -dsimp -implicitDefEqProofs [*])
   refine q4e (fun y : Nat × List Sh × Ses => [(0, q4b false J), (5, .val (.int .u8 sh)), (6, .val (.int .u8 gv)), (10, .ptr b1 0), (15, .int J.length), (16, .int C), (17, .int m), (18, .ptr b 0), (35, .int k), (36, .int jk), (214, q4b false J), (215, .int J.length), (216, .int k), (252, q4b false J), (253, .int J.length), (254, .int a), (39, .int a), (40, .int ja), (259, .int C), (260, .int y.1)]) (fun y => (b, .arr T.apiSession y.2.2.enc) :: (b1, .arr T.q30 [LL mk, LL kk, DD sa, LLL mo]) :: st) (fun y => y.1 ≤ C ∧ Hid (GiveI p (q9s sh) (q9s gv) l k (k + 1) a y.1 Sw1 y.2.1) ∧ Hid (y.2.2 = p.ses l Sw1 y.2.1)) (fun y => C - y.1) (0, K, Z) ⟨Nat.zero_le _, hJ, hZ⟩ (by simp) q4p ?_
   clear hZ hJ
   rintro ⟨c, K, Z⟩ ⟨hc, hJ, hZ⟩
   replace hc : c ≤ C := hc
   replace hJ : Hid (GiveI p (q9s sh) (q9s gv) l k (k + 1) a c Sw1 K) := hJ
   replace hZ : Hid (Z = p.ses l Sw1 K) := hZ
   simp only
   by_cases hcl : c < C
   case neg =>
    have hce : c = C := by omega
    subst hce
    have e := Hid.mk (GiveI.nextA (p := p) (by rw [hp.out.c]; exact hJ.out) (by rw [hp.out.c]; exact hC3.2))
    clear hJ hjj
    repeat' (simp -dsimp -implicitDefEqProofs [*])
    exact Next.intro (a + 1, K, Z) ⟨by simp only; omega, e, hZ⟩ (by simp only; omega) (by simp) q4p
   have hwc := q4d (n := c) (by omega)
   by_cases hak : a = k
   ·have e := Hid.mk (hJ.out.skipC hak)
    have hj2 := hjj.out.2 hak
    clear hJ hjj
    repeat' (simp -dsimp -implicitDefEqProofs [*])
    exact Next.intro (c + 1, K, Z) ⟨by simp only; omega, e, hZ⟩ (by simp only; omega) (by simp [hak, hj2]) q4p
   have hj2 : ¬ ja = jk := fun e => hak (hjj.out.1 e)
   have H1 := k97 hp.out hkl (by omega) hal hcl hak (by unfold q9s; rw [hg]; rfl) hja.out hjk.out hJ.out hZ.out
   obtain ⟨K2, Z2, v, hZ2, e, g4, g3⟩ := H1
   clear hJ hjj hZ
   repeat' (first 
    | (with_reducible refine k5m (fun _ => g4 _) ?_)
    | (with_reducible refine DrawLate.intro [] ?_)
    | (simp -dsimp -implicitDefEqProofs [*]))
   refine q99 g3 (by simp [*]) (by simp [*]) (by simp) (by simp) ?_
   clear g3 g4
   repeat' (first 
    | (with_reducible refine Fresh.intro fun b hb => ?_) <;> (try simp -dsimp -implicitDefEqProofs [*] at hb)
    | (with_reducible refine k4r ?_ ?_)
    | (with_reducible exact Cls.self _ _)
    | (with_reducible refine q84 ?_ ?_)
    | (simp -dsimp -implicitDefEqProofs [*]))
   exact Next.intro (c + 1, K2, Z2) ⟨by simp only; omega, e, hZ2⟩ (by simp only; omega) (by simp) q4p
  ·repeat' (first 
    | (with_reducible refine DrawLate.intro [] ?_)
    | (simp -dsimp -implicitDefEqProofs [setCells_two, *]))
   refine q99 cW (by simp [*]) (by simp [*]) (by simp) (by simp) ?_
   clear cW
   repeat' (first 
    | (with_reducible refine Fresh.intro fun b hb => ?_) <;> (try simp -dsimp -implicitDefEqProofs [*] at hb)
    | (with_reducible refine k4r ?_ ?_)
    | (with_reducible exact Cls.self _ _)
    | (with_reducible refine q84 ?_ ?_)
    | (simp -dsimp -implicitDefEqProofs [*]))
   revert b; intro b5 hb5
   clear bs bg m1 M1 s1 t2 t3 t4 hS32 hs
   refine q4e (fun y : Nat × List Sh × Ses => [(0, q4b false J), (5, .val (.int .u8 sh)), (6, .val (.int .u8 gv)), (10, .ptr b1 0), (15, .int J.length), (16, .int C), (17, .int m), (18, .ptr b 0), (35, .int k), (36, .int jk), (214, q4b false J), (215, .int J.length), (216, .int k), (252, q4b false J), (253, .int J.length), (254, .int y.1)]) (fun y => (b, .arr T.apiSession y.2.2.enc) :: (b1, .arr T.q30 [LL mk, LL kk, DD sa, LLL mo]) :: st) (fun y => y.1 ≤ J.length ∧ Hid (GiveI p (q9s sh) (q9s gv) l k (k + 1) y.1 0 Sw1 y.2.1) ∧ Hid (y.2.2 = p.ses l Sw1 y.2.1)) (fun y => J.length - y.1) (0, K, Z1) ⟨Nat.zero_le _, hI1, hZ1⟩ (by simp) q4p ?_
   clear hZ1 hI1
   rintro ⟨a, K, Z⟩ ⟨ha, hJ, hZ⟩
   replace ha : a ≤ J.length := ha
   replace hJ : Hid (GiveI p (q9s sh) (q9s gv) l k (k + 1) a 0 Sw1 K) := hJ
   replace hZ : Hid (Z = p.ses l Sw1 K) := hZ
   simp only
   by_cases hal : a < J.length
   case neg =>
    have hae : a = J.length := by omega
    subst hae
    have e := Hid.mk (GiveI.nextK (p := p) (by rw [hp.out.j]; exact hJ.out) (by rw [hp.out.j]; exact hn.2))
    clear hJ
    repeat' (simp -dsimp -implicitDefEqProofs [*])
    exact Next.intro (k + 1, Sw1, K, Z) ⟨by simp only; omega, e, hZ⟩ (by simp only; omega) (by simp) q4p
   have hwa := q4d (n := a) (by omega)
   have H0 := z3h hp.out hal hkl hjk.out
   obtain ⟨ja, hja, a1, hjj⟩ := H0
   have A1 := q7p a1
   repeat' (simp -dsimp -implicitDefEqProofs [*])
   refine q4e (fun y : Nat × List Sh × Ses => [(0, q4b false J), (5, .val (.int .u8 sh)), (6, .val (.int .u8 gv)), (10, .ptr b1 0), (15, .int J.length), (16, .int C), (17, .int m), (18, .ptr b 0), (35, .int k), (36, .int jk), (214, q4b false J), (215, .int J.length), (216, .int k), (252, q4b false J), (253, .int J.length), (254, .int a), (39, .int a), (40, .int ja), (259, .int C), (260, .int y.1)]) (fun y => (b, .arr T.apiSession y.2.2.enc) :: (b1, .arr T.q30 [LL mk, LL kk, DD sa, LLL mo]) :: st) (fun y => y.1 ≤ C ∧ Hid (GiveI p (q9s sh) (q9s gv) l k (k + 1) a y.1 Sw1 y.2.1) ∧ Hid (y.2.2 = p.ses l Sw1 y.2.1)) (fun y => C - y.1) (0, K, Z) ⟨Nat.zero_le _, hJ, hZ⟩ (by simp) q4p ?_
   clear hZ hJ
   rintro ⟨c, K, Z⟩ ⟨hc, hJ, hZ⟩
   replace hc : c ≤ C := hc
   replace hJ : Hid (GiveI p (q9s sh) (q9s gv) l k (k + 1) a c Sw1 K) := hJ
   replace hZ : Hid (Z = p.ses l Sw1 K) := hZ
   simp only
   by_cases hcl : c < C
   case neg =>
    have hce : c = C := by omega
    subst hce
    have e := Hid.mk (GiveI.nextA (p := p) (by rw [hp.out.c]; exact hJ.out) (by rw [hp.out.c]; exact hC3.2))
    clear hJ hjj
    repeat' (simp -dsimp -implicitDefEqProofs [*])
    exact Next.intro (a + 1, K, Z) ⟨by simp only; omega, e, hZ⟩ (by simp only; omega) (by simp) q4p
   have hwc := q4d (n := c) (by omega)
   by_cases hak : a = k
   ·have e := Hid.mk (hJ.out.skipC hak)
    have hj2 := hjj.out.2 hak
    clear hJ hjj
    repeat' (simp -dsimp -implicitDefEqProofs [*])
    exact Next.intro (c + 1, K, Z) ⟨by simp only; omega, e, hZ⟩ (by simp only; omega) (by simp [hak, hj2]) q4p
   have hj2 : ¬ ja = jk := fun e => hak (hjj.out.1 e)
   have H1 := k97 hp.out hkl (by omega) hal hcl hak (by unfold q9s; rw [hg]; rfl) hja.out hjk.out hJ.out hZ.out
   obtain ⟨K2, Z2, v, hZ2, e, g4, g3⟩ := H1
   clear hJ hjj hZ
   repeat' (first 
    | (with_reducible refine k5m (fun _ => g4 _) ?_)
    | (with_reducible refine DrawLate.intro [] ?_)
    | (simp -dsimp -implicitDefEqProofs [*]))
   refine q99 g3 (by simp [*]) (by simp [*]) (by simp) (by simp) ?_
   clear g3 g4
   repeat' (first 
    | (with_reducible refine Fresh.intro fun b hb => ?_) <;> (try simp -dsimp -implicitDefEqProofs [*] at hb)
    | (with_reducible refine k4r ?_ ?_)
    | (with_reducible exact Cls.self _ _)
    | (with_reducible refine q84 ?_ ?_)
    | (simp -dsimp -implicitDefEqProofs [*]))
   exact Next.intro (c + 1, K2, Z2) ⟨by simp only; omega, e, hZ2⟩ (by simp only; omega) (by simp) q4p
 have hke : k = J.length := by omega
 subst hke
 have H0 := j2h hp.out hn.2 hJ.out hZ.out
 obtain ⟨O, hOl, hO, p1⟩ := H0
 clear hJ hk hkl hZ
 repeat' (first 
  | (with_reducible refine Rets.xcall (p1 _ (by simp [*]) (by simp [*])) ?_)
  | (simp -dsimp -implicitDefEqProofs [*]))
 clear p1
 refine q4e (fun k : Nat => [(0, q4b false J), (5, .val (.int .u8 sh)), (6, .val (.int .u8 gv)), (10, .ptr b1 0), (17, .int m), (44, Opd.lst false O), (298, .int J.length), (299, .int k)]) (fun _ => (b1, .arr T.q30 [LL mk, LL kk, DD sa, LLL mo]) :: st) (fun k => k ≤ J.length) (fun k => J.length - k) 0 (Nat.zero_le _) (by simp) q4p ?_
 rintro k hk
 replace hk : k ≤ J.length := hk
 by_cases hkl : k < J.length
 case neg =>
  repeat' (simp -dsimp -implicitDefEqProofs [*])
  exact RetView.drop (st' := st) q4p ⟨rfl, rfl⟩
 have hwk := q4d (n := k) (by omega)
 have bs := k6g sh k
 have H0 := z89 hp.out hC3.2 hO.out hOl hkl
 obtain ⟨M, x, m1, t1, d1, hW⟩ := H0
 have M1 := q7p m1
 replace hO := Hid.mk hO
 repeat' (simp -dsimp -implicitDefEqProofs [*])
 refine q4e (fun i : Nat => [(0, q4b false J), (5, .val (.int .u8 sh)), (6, .val (.int .u8 gv)), (10, .ptr b1 0), (17, .int m), (44, Opd.lst false O), (298, .int J.length), (299, .int k), (46, .int k), (47, .int (k74 gv k i)), (303, .int J.length), (304, .int i)]) (fun _ => (b1, .arr T.q30 [LL mk, LL kk, DD sa, LLL mo]) :: st) (fun i => i ≤ J.length) (fun i => J.length - i) 0 (Nat.zero_le _) (by simp [j2k]) (.refl _) ?_
 rintro i hi
 replace hi : i ≤ J.length := hi
 by_cases hil : i < J.length
 ·have hwi := q4d (n := i) (by omega)
  have bg := k6g gv i
  have hcn := j2i gv k i
  have hwc : IntKind.i64.wrap ((k74 gv k i : Int) + 1) = ((k74 gv k i + 1 : Nat) : Int) := q4d (n := k74 gv k i) (by omega)
  have hcs := j2j gv k i
  have H1 := z1y gv i
  clear bs hW m1 M1 d1 t1 hf hol
  by_cases hik : i = k
  ·have e1 : k74 gv k (i + 1) = k74 gv k i := by rw [hcs, if_neg (fun h => h.1 hik)]; rfl
   have e2 : k74 gv k (k + 1) = k74 gv k k := by rw [hik] at e1; exact e1
   clear hcs H1 bg hwc
   repeat' (simp -dsimp -implicitDefEqProofs [*])
   exact Next.intro (i + 1) (by show i + 1 ≤ J.length; omega) (by show J.length - (i + 1) < J.length - i; omega) (by simp [e2, hik]) q4p
  ·rcases H1 with hg | hg
   ·have e1 : k74 gv k (i + 1) = k74 gv k i := by rw [hcs, if_neg (fun h => by rw [hg] at h; exact absurd h.2 (by decide))]; rfl
    clear hcs hwc
    repeat' (simp -dsimp -implicitDefEqProofs [*])
    exact Next.intro (i + 1) (by show i + 1 ≤ J.length; omega) (by show J.length - (i + 1) < J.length - i; omega) (by simp [e1]) q4p
   ·have e1 : k74 gv k (i + 1) = k74 gv k i + 1 := by rw [hcs, if_pos ⟨hik, hg⟩]
    clear hcs
    repeat' (first 
     | (with_reducible refine And.intro (fun h => ?_) (fun h => ?_)) <;> (try (exfalso; omega))
     | (simp -dsimp -implicitDefEqProofs [*]))
    exact Next.intro (i + 1) (by show i + 1 ≤ J.length; omega) (by show J.length - (i + 1) < J.length - i; omega) (by simp [e1]) q4p
 have hie : i = J.length := by omega
 subst hie
 have hcn := j2i gv k J.length
 generalize k74 gv k J.length = cn at *
 rcases hW with ⟨hs, cS⟩ | ⟨hs, ⟨hc, cS⟩ | ⟨hc, cS⟩⟩
 ·repeat' (first 
   | (with_reducible refine Fresh.intro fun b hb => ?_) <;> (try simp -dsimp -implicitDefEqProofs [*] at hb)
   | (with_reducible refine Rets.xcall (cS _) ?_)
   | (with_reducible refine DrawLate.intro [] ?_)
   | ((with_reducible refine q4t ?_ fun hk => ?_); omega)
   | (simp -dsimp -implicitDefEqProofs [*]))
  exact Next.intro (k + 1) (by show k + 1 ≤ J.length; omega) (by show J.length - (k + 1) < J.length - k; omega) (by simp) q4p
 ·repeat' (first 
   | (with_reducible refine Fresh.intro fun b hb => ?_) <;> (try simp -dsimp -implicitDefEqProofs [*] at hb)
   | (with_reducible refine Rets.xcall (cS _) ?_)
   | (with_reducible refine DrawLate.intro [] ?_)
   | ((with_reducible refine q4t ?_ fun hk => ?_); omega)
   | (simp -dsimp -implicitDefEqProofs [*]))
  exact Next.intro (k + 1) (by show k + 1 ≤ J.length; omega) (by show J.length - (k + 1) < J.length - k; omega) (by simp) q4p
 ·repeat' (first 
   | (with_reducible refine Fresh.intro fun b hb => ?_) <;> (try simp -dsimp -implicitDefEqProofs [*] at hb)
   | (with_reducible refine Rets.xcall (cS _) ?_)
   | (with_reducible refine DrawLate.intro [] ?_)
   | ((with_reducible refine q4t ?_ fun hk => ?_); omega)
   | (simp -dsimp -implicitDefEqProofs [*]))
  exact Next.intro (k + 1) (by show k + 1 ≤ J.length; omega) (by show J.length - (k + 1) < J.length - k; omega) (by simp) q4p
end Go.Proofs.YtnooplpbpfiapaaGreatDoor
