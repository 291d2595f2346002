/- What becomes better. -/
import Derived.Test.YtliglilanpfjhaaGreatCpodiumlaw21TiesBetter
namespace Go.Proofs.YtliglilanpfjhaaGreat
open Go.Pv
set_option maxRecDepth 100000
set_option maxHeartbeats 8000000
theorem Rw.row_len' (l : List Rw) : (Rw.row l).length = l.length * 4 := Rw.row_len l
theorem Rw.row_append (l m : List Rw) : Rw.row (l ++ m) = Rw.row l ++ Rw.row m := by simp [Rw.row]
theorem grow_spec (l : List Rw) (hl : l.length ≤ 10) (n : Rat) (hn : dl n.num.natAbs ≤ 1 ∧ dl n.den ≤ 1) (hg : ∀ r ∈ l, r.good = true) (hf : ∀ r ∈ l, fewR r = true) (at_ : Nat) (hat : at_ < 256) (st : Store) (pF pA pN : Nat)
    (h1 : sget st pF = some (.arr T.apiErrno [.int 0])) (h2 : sget st pA = some (.arr T.uint8 [.val (.int .u8 at_)])) (h3 : sget st pN = some (.arr T.apiRatio (rC false false n))) :
    Rets P F.podiumlaw21_TiesBetter_1 [Rw.lst l, .ptr pF 0, .ptr pA 0, .ptr pN 0] st (Rw.lst (grow l at_ n)) := by
  have hsF := sset_same h1
  refine H.podiumlaw21_TiesBetter_1.view hmix rfl rfl ?_
  repeat' (first 
   | (with_reducible refine Lit.imm ?_)
   | (simp -dsimp -implicitDefEqProofs [-xappend_list, *]))
  refine xappend_copy (row := Rw.row) Rw.row_len' l rfl rfl (by omega) fun o ho hol => ?_
  cases o with
  | none =>
    have e : l = [] := hol.symm
    subst e
    have eg : grow [] at_ n = [] := rfl
    rw [eg]
    clear hg hf hsF h3 h2 eg
    repeat' (simp -dsimp -implicitDefEqProofs [*])
    exact RetView.sees (.loose _) (RetView.drop (st' := st) (by repeat' (first | exact StLe.refl _ | (refine StLe_cons (by simp [*]; done) ?_) | (refine StLe_fresh (by simp [*]; done) ?_))) ⟨rfl, rfl⟩)
  | some a =>
    obtain ⟨ha, hab⟩ := ho
    have hal : a.l = l := hol
    have hla : a.l.length = l.length := by rw [hal]
    have hRow : a.R.take (l.length * 4) = Rw.row l := by have := ha.row; rw [hal] at this; exact this
    have hlen := ha.len
    have hle := ha.le
    have hcap := ha.cap
    rw [hla] at hle
    by_cases hp : 0 < l.length
    case neg =>
      have e0 : l.length = 0 := by omega
      have e : l = [] := List.length_eq_zero_iff.1 e0
      subst e
      have eg : grow [] at_ n = [] := rfl
      rw [eg]
      have hl0 : a.l.length = 0 := hla
      clear hg hf hsF h3 h2 eg hol hal hla hRow
      repeat' (simp -dsimp -implicitDefEqProofs [*])
      refine .freeze (.list false [] 0) hab ?_ (.same ⟨rfl, rfl⟩)
      have := Frz.own (b := a.b) (o := .arr T.apiRatio a.R) T.apiRatio a.R 0 0 a.cap 4 rfl (Nat.zero_le _) hcap
      simpa using this
    obtain ⟨k, hk⟩ : ∃ k, k = at_ % l.length := ⟨_, rfl⟩
    have hkl : k < l.length := by rw [hk]; exact Nat.mod_lt _ hp
    have hm : ((at_ : Int)).tmod l.length = k := by rw [hk]; exact (Int.ofNat_tmod at_ l.length).symm
    have w1 : IntKind.i64.wrap (at_ : Int) = at_ := wrap_in (by omega) (by omega)
    have hne : ¬ (l.length : Int) = 0 := by omega
    have hpi : (0 : Int) < l.length := by omega
    have hki : (k : Int) < l.length := by omega
    have hkR : k * 4 + 4 ≤ a.R.length := by omega
    have gsub : sub a.R (k * 4) 4 = some l[k].enc := by
      have h := Rw.row_sub l k hkl
      rw [sub_eq, if_pos (by rw [Rw.row_len]; omega)] at h
      rw [sub_eq, if_pos hkR, ← h, ← hRow]
      congr 1
      rw [List.drop_take, List.take_take]
      congr 1
      omega
    obtain ⟨add, d1, d2⟩ := add_small (few_digits (hg _ (List.getElem_mem hkl)) (hf _ (List.getElem_mem hkl))) hn
    have ca := ratAdd_spec false false false false (l[k].val) n add
    have ek := (Rw.good_ok (hg _ (List.getElem_mem hkl))).1
    rw [← ek] at ca
    have eg : grow l at_ n = l.set k (rwQ (l[k].val + n)) := by
      unfold grow
      rw [if_neg (fun e => by rw [e] at hp; simp at hp), ← hk]
      simp [List.getD_eq_getElem?_getD, hkl]
    rw [eg]
    have eq := rwQ_enc (l[k].val + n)
    rw [← eq] at ca
    have hset : (setCells a.R (k * 4) (rwQ (l[k].val + n)).enc).take (l.length * 4) = Rw.row (l.set k (rwQ (l[k].val + n))) := by
      have e1 : a.R = Rw.row l ++ a.R.drop (l.length * 4) := by conv => lhs; rw [← List.take_append_drop (l.length * 4) a.R, hRow]
      rw [e1, setCells_append_left _ _ _ _ (by rw [Rw.len, Rw.row_len]; omega), List.take_left' (by rw [length_setCells, Rw.row_len])]
      exact flat_set Rw.enc 4 Rw.len l k _ hkl
    obtain ⟨R2, hR2⟩ : ∃ R2, R2 = setCells a.R (k * 4) (rwQ (l[k].val + n)).enc := ⟨_, rfl⟩
    rw [← hR2] at hset
    have hS2 : setCells a.R (k * 4) (rwQ (l[k].val + n)).enc = R2 := hR2.symm
    obtain ⟨L2, hL2⟩ : ∃ L2, L2 = l.set k (rwQ (l[k].val + n)) := ⟨_, rfl⟩
    have lL2 : L2.length = l.length := by rw [hL2]; simp
    rw [← hL2] at hset ⊢
    obtain ⟨Q, hQ⟩ : ∃ Q, Q = rwQ (l[k].val + n) := ⟨_, rfl⟩
    rw [← hQ] at ca hS2
    obtain ⟨E, hE⟩ : ∃ E, E = l[k].enc := ⟨_, rfl⟩
    rw [← hE] at gsub
    have ca : ∀ st, Rets P F.ratio_Add [.agg E, .agg (rC false false n)] st (.tuple [.agg Q.enc, .int 0]) := by rw [hE]; exact ca
    obtain ⟨N, hN⟩ : ∃ N, N = rC false false n := ⟨_, rfl⟩
    have lN : N.length = 4 := by rw [hN]; rfl
    rw [← hN] at ca h3
    have gN := cells_sub lN
    have lE : E.length = 4 := by rw [hE]; rfl
    have hab2 : snew st a.b := hab
    have nF : ¬ a.b = pF := fun e => by have := snew_get hab; rw [e, h1] at this; cases this
    have nA : ¬ a.b = pA := fun e => by have := snew_get hab; rw [e, h2] at this; cases this
    have nN : ¬ a.b = pN := fun e => by have := snew_get hab; rw [e, h3] at this; cases this
    have kset : Hid _ := ⟨hset⟩
    have kL2 : Hid _ := ⟨lL2⟩
    clear hR2 hL2 hQ hE hN eq ek add d1 d2 eg hRow hal hol hg hf hk hset lL2 hn ha
    repeat' (first 
     | (with_reducible refine Rets.xcall (ca _) ?_)
     | (with_reducible refine DrawLate.intro [] ?_)
     | (with_reducible refine And.intro (fun h => ?_) ?_) <;> (try (exfalso; omega))
     | ((with_reducible refine and_keep ?_ fun hk => ?_); omega)
     | (simp -dsimp -implicitDefEqProofs [*]))
    · rw [h] at hp; simp at hp
    · refine .freeze (Rw.lst L2) hab ?_ (.same ⟨rfl, rfl⟩)
      have h := Frz.own (b := a.b) (o := .arr T.apiRatio R2) T.apiRatio R2 0 l.length a.cap 4 rfl hle hcap
      rw [List.drop_zero, kset.out] at h
      show Frz _ _ _ (.list false (Rw.row L2) L2.length)
      rw [kL2.out]
      exact h
theorem third {b : Int} (h0 : 0 ≤ b) (h1 : b < 256) : 0 ≤ mkRat b 3 ∧ dl (mkRat b 3).num.natAbs ≤ 1 ∧ dl (mkRat b 3).den ≤ 1 := by
  obtain ⟨s1, s2⟩ := mkRat_small b (show (3 : Nat) ≠ 0 by decide)
  refine ⟨?_, dl_one (by omega), dl_one (by omega)⟩
  rw [show (0 : Rat) = mkRat 0 1 by rfl, mkRat_le (by decide) (by decide)]
  omega
theorem better_law (l : List Ke) (hl : l.length ≤ 9223372036854775807) (x y : Ky) (hx : x.Wide) (hy : y.Wide) (what at_ by_ : Int) (w0 : 0 ≤ what) (a0 : 0 ≤ at_) (a1 : at_ < 256) (b0 : 0 ≤ by_) (b1 : by_ < 256) (st : Store) :
    Rets P F.podiumlaw21_TiesBetter [Ke.lst l, x.pv, y.pv, .val (.int .u8 what), .val (.int .u8 at_), .val (.int .u8 by_)] st (.bool true) := by
  have cs := sane_spec
  have cr := right2_spec l hl x y hx hy
  clear hx hy
  cases hR : rightL l [x, y] with
  | false =>
    rw [hR] at cr
    refine H.podiumlaw21_TiesBetter.view hmix rfl rfl ?_
    repeat' (first 
     | (with_reducible refine Fresh.intro fun b hb => ?_) <;> (try simp -dsimp -implicitDefEqProofs [*] at hb)
     | (with_reducible refine Rets.xcall (cs _) ?_)
     | (with_reducible refine Rets.xcall (cr _) ?_)
     | (with_reducible refine Lit.imm ?_)
     | (simp -dsimp -implicitDefEqProofs [*]))
    exact RetView.drop (st' := st) (by repeat' (first | exact StLe.refl _ | (refine StLe_cons (by simp [*]; done) ?_) | (refine StLe_fresh (by simp [*]; done) ?_))) ⟨rfl, rfl⟩
  | true =>
    rw [hR] at cr
    have h := rightL_iff hR
    have hfew : x.good = true ∧ fewY x = true := by
      have hr := h.right x (by simp)
      simp only [rightL, Bool.and_eq_true, fewK, List.all_eq_true] at hR
      exact ⟨(right_has hr).2, hR.2.2.2 x (by simp)⟩
    have hlen := h.lens x (by simp)
    obtain ⟨hg, hf⟩ := hfew
    have hg2 := hg
    have hf2 := hf
    simp only [Ky.good, Bool.and_eq_true, List.all_eq_true] at hg2
    simp only [fewY, Bool.and_eq_true, List.all_eq_true, decide_eq_true_eq] at hf2
    obtain ⟨g1, g2, g3⟩ := hg2
    obtain ⟨⟨f1, f2⟩, f3, f4, f5⟩ := hf2
    obtain ⟨t0, t1⟩ := third b0 b1
    have c1 := h.comp (show x ∈ [x, y] by simp) (show y ∈ [x, y] by simp)
    have cm : ∀ st, Rets P F.ratio_Make [.int by_, .int 3] st (.tuple [.agg (rC false false (mkRat by_ 3)), .int 0]) := ratMake_spec by_ 3 (by decide) (by omega) (by omega) (by decide)
    obtain ⟨n, hn⟩ : ∃ n, n = mkRat by_ 3 := ⟨_, rfl⟩
    rw [← hn] at t0 t1 cm
    -- the entries that come out
    obtain ⟨asm, d1, d2⟩ := add_small (few_digits g1 f3) t1
    have s0 : x.score.val ≤ (rwQ (x.score.val + n)).val := by
      rw [rwQ_val d1 d2]
      have := Rat.add_le_add_left (c := x.score.val) |>.2 t0
      simpa [Rat.add_zero] using this
    have z0 : Better x { x with score := rwQ (x.score.val + n) } := { Better.refl x with score := s0 }
    have cz0 := z0.comp h (by show ((rwQ (x.score.val + n)).good && (x.totals.all Rw.good && x.prev.all Rw.good)) = true; rw [rwQ_good d1 d2, List.all_eq_true.2 g2, List.all_eq_true.2 g3]; rfl) ⟨rwQ_len d1 d2, hlen.totals, hlen.prev, hlen.lt, hlen.lp⟩
    have m0 := z0.mono (l := l) (y := y)
    have ca := ratAdd_spec false false false false x.score.val n asm
    rw [← (Rw.good_ok g1).1, ← rwQ_enc (x.score.val + n)] at ca
    have gT := grow_all (at_ := at_.toNat) t1 g2 f4
    have gP := grow_all (at_ := at_.toNat) t1 g3 f5
    have z1 : Better x { x with totals := grow x.totals at_.toNat n } := { Better.refl x with lt := grow_len _ _ _, totals := fun j => grow_val t0 t1 g2 f4 j }
    have cz1 := z1.comp h (by show (x.score.good && ((grow x.totals at_.toNat n).all Rw.good && x.prev.all Rw.good)) = true; rw [g1, List.all_eq_true.2 fun r hr => (gT r hr).1, List.all_eq_true.2 g3]; rfl) ⟨hlen.score, fun r hr => (gT r hr).2, hlen.prev, by show (grow x.totals at_.toNat n).length ≤ 100000; rw [grow_len]; exact hlen.lt, hlen.lp⟩
    have m1 := z1.mono (l := l) (y := y)
    have z2 : Better x { x with prev := grow x.prev at_.toNat n } := { Better.refl x with lp := grow_len _ _ _, prev := fun j => grow_val t0 t1 g3 f5 j }
    have cz2 := z2.comp h (by show (x.score.good && (x.totals.all Rw.good && (grow x.prev at_.toNat n).all Rw.good)) = true; rw [g1, List.all_eq_true.2 fun r hr => (gP r hr).1, List.all_eq_true.2 g2]; rfl) ⟨hlen.score, hlen.totals, fun r hr => (gP r hr).2, hlen.lt, by show (grow x.prev at_.toNat n).length ≤ 100000; rw [grow_len]; exact hlen.lp⟩
    have m2 := z2.mono (l := l) (y := y)
    have z3 : ∀ v, x.high ≤ v → Better x { x with high := v } := fun v hv => { Better.refl x with high := hv }
    have z4 : ∀ v, x.bonus ≤ v → Better x { x with bonus := v } := fun v hv => { Better.refl x with bonus := hv }
    have z5 : ∀ v, v ≤ x.lot → Better x { x with lot := v } := fun v hv => { Better.refl x with lot := hv }
    have cz3 := fun v hv => (z3 v hv).comp h hg ⟨hlen.score, hlen.totals, hlen.prev, hlen.lt, hlen.lp⟩
    have cz4 := fun v hv => (z4 v hv).comp h hg ⟨hlen.score, hlen.totals, hlen.prev, hlen.lt, hlen.lp⟩
    have cz5 := fun v hv => (z5 v hv).comp h hg ⟨hlen.score, hlen.totals, hlen.prev, hlen.lt, hlen.lp⟩
    have m3 := fun v hv => (z3 v hv).mono (l := l) (y := y)
    have m4 := fun v hv => (z4 v hv).mono (l := l) (y := y)
    have m5 := fun v hv => (z5 v hv).mono (l := l) (y := y)
    have cgT := fun st pF pA pN => grow_spec x.totals f1 n t1 g2 f4 at_.toNat (by omega) st pF pA pN
    have cgP := fun st pF pA pN => grow_spec x.prev f2 n t1 g3 f5 at_.toNat (by omega) st pF pA pN
    have eat : ((at_.toNat : Nat) : Int) = at_ := by omega
    rw [eat] at cgT cgP
    obtain ⟨N, hN⟩ : ∃ N, N = rC false false n := ⟨_, rfl⟩
    have lN : N.length = 4 := by rw [hN]; rfl
    rw [← hN] at cm ca cgT cgP
    have gN := cells_sub lN
    have aN : setCells [.bool false, .nil, .bool false, .nil] 0 N = N := setCells_all N _ lN
    have wb : IntKind.i64.wrap by_ = by_ := wrap_in (by omega) (by omega)
    obtain ⟨m, hm⟩ : ∃ m, m = what.tmod 6 := ⟨_, rfl⟩
    have hm6 : 0 ≤ m ∧ m < 6 := by rw [hm, Int.tmod_eq_emod_of_nonneg w0]; omega
    have hmt : what.tmod 6 = m := hm.symm
    have kM : Hid _ := ⟨And.intro m0 (And.intro m1 (And.intro m2 (And.intro m3 (And.intro m4 m5))))⟩
    have k3 : Hid _ := ⟨And.intro cz3 (And.intro cz4 cz5)⟩
    have kG : Hid _ := ⟨And.intro cgT cgP⟩
    clear s0 m0 m1 m2 m3 m4 m5 cz3 cz4 cz5 z0 z1 z2 z3 z4 z5 gT gP d1 d2 asm hN hn hm h hR hg hf g1 g2 g3 f1 f2 f3 f4 f5 hlen t0 t1 eat cgT cgP
    refine H.podiumlaw21_TiesBetter.view hmix rfl rfl ?_
    have hm5 : m = 0 ∨ m = 1 ∨ m = 2 ∨ m = 3 ∨ m = 4 ∨ m = 5 := by omega
    clear hm6
    rcases hm5 with rfl | rfl | rfl | rfl | rfl | rfl
    · have mm := kM.out.1
      repeat' (first 
       | (with_reducible refine Fresh.intro fun b hb => ?_) <;> (try simp -dsimp -implicitDefEqProofs [*] at hb)
       | (with_reducible refine Rets.xcall (cs _) ?_)
       | (with_reducible refine Rets.xcall (cr _) ?_)
       | (with_reducible refine Rets.xcall (c1 _) ?_)
       | (with_reducible refine Rets.xcall (cm _) ?_)
       | (with_reducible refine Rets.xcall (ca _) ?_)
       | (with_reducible refine Rets.xcall (cz0 _) ?_)
       | (with_reducible refine Lit.imm ?_)
       | (simp -dsimp -implicitDefEqProofs [*]))
      exact RetView.drop (st' := st) (by repeat' (first | exact StLe.refl _ | (refine StLe_cons (by simp [*]; done) ?_) | (refine StLe_fresh (by simp [*]; done) ?_))) ⟨rfl, rfl⟩
    · have mm := kM.out.2.1
      repeat' (first 
       | (with_reducible refine Fresh.intro fun b hb => ?_) <;> (try simp -dsimp -implicitDefEqProofs [*] at hb)
       | (with_reducible refine Rets.xcall (cs _) ?_)
       | (with_reducible refine Rets.xcall (cr _) ?_)
       | (with_reducible refine Rets.xcall (c1 _) ?_)
       | (with_reducible refine Rets.xcall (cm _) ?_)
       | (with_reducible refine Lit.imm ?_)
       | (simp -dsimp -implicitDefEqProofs [*]))
      rename_i q3 h3 q2 h2 q1 h1
      refine Rets.xcall (kG.out.1 _ b q2 q1 (by simp [*]) (by simp [*]) (by simp [*])) ?_
      repeat' (first 
       | (with_reducible refine Rets.xcall (cz1 _) ?_)
       | (simp -dsimp -implicitDefEqProofs [*]))
      exact RetView.drop (st' := st) (by repeat' (first | exact StLe.refl _ | (refine StLe_cons (by simp [*]; done) ?_) | (refine StLe_fresh (by simp [*]; done) ?_))) ⟨rfl, rfl⟩
    · have mm := kM.out.2.2.1
      repeat' (first 
       | (with_reducible refine Fresh.intro fun b hb => ?_) <;> (try simp -dsimp -implicitDefEqProofs [*] at hb)
       | (with_reducible refine Rets.xcall (cs _) ?_)
       | (with_reducible refine Rets.xcall (cr _) ?_)
       | (with_reducible refine Rets.xcall (c1 _) ?_)
       | (with_reducible refine Rets.xcall (cm _) ?_)
       | (with_reducible refine Lit.imm ?_)
       | (simp -dsimp -implicitDefEqProofs [*]))
      rename_i q3 h3 q2 h2 q1 h1
      refine Rets.xcall (kG.out.2 _ b q2 q1 (by simp [*]) (by simp [*]) (by simp [*])) ?_
      repeat' (first 
       | (with_reducible refine Rets.xcall (cz2 _) ?_)
       | (simp -dsimp -implicitDefEqProofs [*]))
      exact RetView.drop (st' := st) (by repeat' (first | exact StLe.refl _ | (refine StLe_cons (by simp [*]; done) ?_) | (refine StLe_fresh (by simp [*]; done) ?_))) ⟨rfl, rfl⟩
    · have hv : x.high ≤ if x.high < IntKind.i64.wrap (x.high + by_) then IntKind.i64.wrap (x.high + by_) else x.high := by split <;> omega
      have mm := kM.out.2.2.2.1 _ hv
      have cv := k3.out.1 _ hv
      clear hv
      repeat' (first 
       | (with_reducible refine Fresh.intro fun b hb => ?_) <;> (try simp -dsimp -implicitDefEqProofs [*] at hb)
       | (with_reducible refine Rets.xcall (cs _) ?_)
       | (with_reducible refine Rets.xcall (cr _) ?_)
       | (with_reducible refine Rets.xcall (c1 _) ?_)
       | (with_reducible refine Rets.xcall (cm _) ?_)
       | (with_reducible refine Rets.xcall (cv _) ?_)
       | (with_reducible refine Lit.imm ?_)
       | (simp -dsimp -implicitDefEqProofs [*]))
      exact RetView.drop (st' := st) (by repeat' (first | exact StLe.refl _ | (refine StLe_cons (by simp [*]; done) ?_) | (refine StLe_fresh (by simp [*]; done) ?_))) ⟨rfl, rfl⟩
    · have hv : x.bonus ≤ if x.bonus < IntKind.i64.wrap (x.bonus + by_) then IntKind.i64.wrap (x.bonus + by_) else x.bonus := by split <;> omega
      have mm := kM.out.2.2.2.2.1 _ hv
      have cv := k3.out.2.1 _ hv
      clear hv
      repeat' (first 
       | (with_reducible refine Fresh.intro fun b hb => ?_) <;> (try simp -dsimp -implicitDefEqProofs [*] at hb)
       | (with_reducible refine Rets.xcall (cs _) ?_)
       | (with_reducible refine Rets.xcall (cr _) ?_)
       | (with_reducible refine Rets.xcall (c1 _) ?_)
       | (with_reducible refine Rets.xcall (cm _) ?_)
       | (with_reducible refine Rets.xcall (cv _) ?_)
       | (with_reducible refine Lit.imm ?_)
       | (simp -dsimp -implicitDefEqProofs [*]))
      exact RetView.drop (st' := st) (by repeat' (first | exact StLe.refl _ | (refine StLe_cons (by simp [*]; done) ?_) | (refine StLe_fresh (by simp [*]; done) ?_))) ⟨rfl, rfl⟩
    · have hv : (if IntKind.i64.wrap (x.lot - by_) < x.lot then IntKind.i64.wrap (x.lot - by_) else x.lot) ≤ x.lot := by split <;> omega
      have mm := kM.out.2.2.2.2.2 _ hv
      have cv := k3.out.2.2 _ hv
      clear hv
      repeat' (first 
       | (with_reducible refine Fresh.intro fun b hb => ?_) <;> (try simp -dsimp -implicitDefEqProofs [*] at hb)
       | (with_reducible refine Rets.xcall (cs _) ?_)
       | (with_reducible refine Rets.xcall (cr _) ?_)
       | (with_reducible refine Rets.xcall (c1 _) ?_)
       | (with_reducible refine Rets.xcall (cm _) ?_)
       | (with_reducible refine Rets.xcall (cv _) ?_)
       | (with_reducible refine Lit.imm ?_)
       | (simp -dsimp -implicitDefEqProofs [*]))
      exact RetView.drop (st' := st) (by repeat' (first | exact StLe.refl _ | (refine StLe_cons (by simp [*]; done) ?_) | (refine StLe_fresh (by simp [*]; done) ?_))) ⟨rfl, rfl⟩
end Go.Proofs.YtliglilanpfjhaaGreat
