/- Package nat: long division. -/
import Derived.Test.YtliglilanpfjhaaS21G
namespace Go.Proofs.Ytliglilanpfjhaa
open Go.Pv
set_option maxRecDepth 100000
set_option maxHeartbeats 20000000
theorem moved_digs (t : Bool) (x : Nat) (s : Nat) (hs : s < 30) (hx : dl x ≤ 20000) (st : Store) : Rets P F.nat_moved [intLst t (digs x), .int s] st (intLst false (digs (x * 2 ^ s))) := by
  have := moved_spec t (digs x) s hs hx st (digs_ok x)
  rwa [movD x s hs] at this
theorem moved_row (t : Bool) (x : Nat) (s : Nat) (hs : s < 30) (hx : dl x ≤ 20000) (st : Store) : PCalls P F.nat_moved [intLst t (digs x), .int s] st fun e s' => ∃ b, snew st b ∧ e = .ret (.own b 0 (digs (x * 2 ^ s)).length (dl x + 1)) ∧ ∃ L : List Int, L.take (digs (x * 2 ^ s)).length = digs (x * 2 ^ s) ∧ L.length = dl x + 1 ∧ s' = (b, .arr T.int (intRow L)) :: st := by
  refine PCalls.mono (moved_own t (digs x) s hs hx st (digs_ok x)) fun e s' ⟨b, hb, he, hs'⟩ => ⟨b, hb, ?_, _, ?_, ?_, hs'⟩
  · rw [he, movD x s hs, carD_len]
  · rw [← movD x s hs]; exact trimD_pre _
  · rw [carD_len]
theorem long_spec (t u : Bool) (x y k : Nat) (hk : dl y = k + 2) (hyx : y ≤ x) (hx : dl x ≤ 20000) (st : Store) : Rets P F.nat_long [intLst t (digs x), intLst u (digs y)] st (.tuple [intLst false (digs (x / y)), intLst false (digs (x % y))]) := by
  have hy2 : dl y ≤ dl x := dl_mono hyx
  have hky : k + 1 < (digs y).length := by unfold dl at hk; omega
  have hl : (digs y).length = k + 2 := hk
  obtain ⟨d, hd⟩ : ∃ d : Nat, (digs y)[k + 1] = d := ⟨((digs y)[k + 1]).toNat, by have := dOk_get (digs_ok y) hky; omega⟩
  have hd1 := dOk_get (digs_ok y) hky
  have hd0 : (digs y)[k + 1] ≠ 0 := by
    intro h
    have hc := (canon_digs y).2 ((digs y).take (k + 1))
    apply hc
    have := List.take_append_getElem hky
    rw [h, List.take_of_length_le (i := k + 1 + 1) (by omega)] at this
    exact this.symm
  rw [hd] at hd1 hd0
  unfold BB at hd1
  obtain ⟨s, hlz, hs, hs1, hs2⟩ := lz_spec d (by omega) (by omega) st
  have eN : ((d * 2 ^ s : Nat) : Int) = (d : Int) * 2 ^ s := by push_cast; rfl
  obtain ⟨hV, hVt⟩ := shift_len (s := s) hk hd.symm (by rw [← eN]; omega) (by rw [← eN]; omega) (by omega)
  have hVl : (digs (y * 2 ^ s)).length = k + 2 := hV
  have kF := LInv.first hk hyx hV hs
  have kX := moved_row t x s hs hx st
  have kY := moved_digs u y s hs (by omega) st
  have hg := intRow_get (digs y) (k + 1) hky
  rw [hd] at hg
  have hxl : (digs x).length = dl x := rfl
  have g1 : dl (x * 2 ^ s) ≤ dl x + 1 := by
    rw [dl_le, Nat.pow_succ]
    have h1 := (dl_le (n := x) (k := dl x)).1 (Nat.le_refl _)
    have h2 : 2 ^ s ≤ 1073741824 := Nat.pow_le_pow_right (n := 2) (by decide) (show s ≤ 30 by omega)
    exact Nat.mul_lt_mul_of_lt_of_le h1 h2 (by decide)
  have g2 : dl x ≤ dl (x * 2 ^ s) := dl_mono (Nat.le_mul_of_pos_right _ (Nat.pow_pos (by decide)))
  refine H.nat_long.view hmix rfl rfl ?_
  have w0 : IntKind.i64.wrap ((digs y).length - 1) = ((k + 1 : Nat) : Int) := by rw [hl, wrap_in (by omega) (by omega)]; omega
  have w1 : IntKind.u64.wrap (d : Int) = d := u64_in (by omega) (by omega)
  have w2 : IntKind.i64.wrap (s : Int) = s := wrap_in (by omega) (by omega)
  have kH : Hid (dl y = k + 2 ∧ y ≤ x ∧ (digs y).length = k + 2) := ⟨hk, hyx, hl⟩
  have kF : Hid (LInv ((x * 2 ^ s : Nat) : Int) (digs (y * 2 ^ s)) ((digs (x * 2 ^ s) ++ [0, 0]).take (dl x + 1)) (List.replicate (dl x + 1 - (k + 2)) 0) (dl x + 1 - (k + 2))) := ⟨kF⟩
  have kT : Hid (∀ h : k + 1 < (digs (y * 2 ^ s)).length, 536870912 ≤ (digs (y * 2 ^ s))[k + 1]) := ⟨hVt⟩
  obtain ⟨j, hj⟩ : ∃ j, j = k + 1 := ⟨_, rfl⟩
  have hjl : j < (digs y).length := by omega
  rw [← hj] at w0
  have hgd : (digs y)[j] = d := by subst hj; exact hd
  clear hk hyx hl hd hd0 hs1 hs2 hVt hV hj hky hg eN
  repeat' (first 
   | (with_reducible refine Rets.xcall (hlz) ?_)
   | (with_reducible refine Rets.xcall (kY) ?_)
   | (simp -dsimp -implicitDefEqProofs [*]))
  refine xcall_post kX fun e s' ⟨b1, hb1, he, L, hL1, hL2, hs'⟩ => ?_
  subst he; subst hs'
  clear kX kY hlz
  obtain ⟨N, hN⟩ : ∃ N, N = dl x + 1 := ⟨_, rfl⟩
  have w3 : IntKind.i64.wrap ((dl x : Int) + 1) = (N : Int) := by rw [hN, wrap_in (by omega) (by omega)]; omega
  repeat' (first 
   | (with_reducible refine Lit.imm ?_)
   | (simp -dsimp -implicitDefEqProofs [*]))
  refine xappend_own (row := intRow L) (by simp) (by simp [hL2]) g1 (by omega) ?_
  have eW : (intRow L).take ((digs (x * 2 ^ s)).length * 1) ++ [PV.val (Value.int IntKind.i64 0), PV.val (Value.int IntKind.i64 0)] = intRow (digs (x * 2 ^ s) ++ [0, 0]) := by
    rw [Nat.mul_one, intRow_take, hL1, intRow_append]; rfl
  have eS : sdel b1 ((b1, .arr T.int (intRow L)) :: st) = st := by simp [hb1]
  rw [eW, eS]
  clear eW eS hL1 hL2 hb1
  obtain ⟨W, hW⟩ : ∃ W, W = digs (x * 2 ^ s) ++ [0, 0] := ⟨_, rfl⟩
  have hWl : (digs (x * 2 ^ s)).length + 2 = W.length := by rw [hW]; simp
  rw [← hW] at kF ⊢
  rw [hWl]
  have e0 : (digs (x * 2 ^ s)).length = dl (x * 2 ^ s) := rfl
  have g3 : dl x + 1 ≤ W.length := by omega
  have g4 : W.length ≤ 20100 := by omega
  clear e0
  have kFl := kF.out.len
  have kFr := kF.out.rq
  rw [hVl, List.length_replicate] at kFl
  clear hW hWl g1 g2
  obtain ⟨K, hK⟩ : ∃ K, K = k + 2 := ⟨_, rfl⟩
  have hKy : dl y = K := by rw [hK]; exact kH.out.1
  have kK : Hid (K = k + 2) := ⟨hK⟩
  rw [← hK] at hVl kFl kFr kF
  clear hK
  obtain ⟨i0, hi0⟩ : ∃ i0, dl x = i0 + K := ⟨dl x - K, by omega⟩
  have w4 : IntKind.i64.wrap ((dl x : Int) - K) = i0 := by rw [hi0, wrap_in (by omega) (by omega)]; omega
  obtain ⟨m, hm⟩ : ∃ m, m = i0 + 1 := ⟨_, rfl⟩
  have w5 : IntKind.i64.wrap ((i0 : Int) + 1) = (m : Int) := by rw [hm, wrap_in (by omega) (by omega)]; omega
  have km : Hid (m = i0 + 1 ∧ dl x = i0 + K ∧ dl y = K) := ⟨hm, hi0, hKy⟩
  have hm2 : m ≤ 20001 := by omega
  have hxm : dl x + 1 - K = m := by omega
  rw [hxm] at kF kFl kFr
  have hm3 : N = m + K := by omega
  rw [← hN] at kF kFl
  have kN : Hid (N = dl x + 1 ∧ N = m + K) := ⟨hN, hm3⟩
  have hNW : N ≤ W.length := by omega
  clear hm hi0 hKy kFr hN hm3 hxm g3
  repeat' (first 
   | (with_reducible refine Fresh.intro fun b hb => ?_) <;> (try simp -dsimp -implicitDefEqProofs [*] at hb)
   | ((with_reducible refine Grow.intro ?_ fun b cap hb hc1 hc2 => ?_); omega) <;> (try simp -dsimp -implicitDefEqProofs [*] at hb)
   | ((with_reducible refine and_keep ?_ fun hk => ?_); omega)
   | (simp -dsimp -implicitDefEqProofs [*]))
  revert b
  revert b
  intro p hp q hq
  have hqn : snew st q := hq.2
  obtain ⟨C, hC⟩ : ∃ C, C = intRow (W.drop N) ++ List.replicate (cap - W.length) PV.any := ⟨_, rfl⟩
  have eW : intRow W ++ List.replicate (cap - W.length) PV.any = intRow (W.take N) ++ C := by
    rw [hC, ← List.append_assoc, ← intRow_append, List.take_append_drop]
  have hC2 : N + C.length = cap := by rw [hC]; simp; omega
  rw [eW]
  clear hC eW
  have w6 : IntKind.i64.wrap ((m : Int) - 1) = (m : Int) - 1 := wrap_in (by omega) (by omega)
  obtain ⟨V, hVV⟩ : ∃ V, V = digs (y * 2 ^ s) := ⟨_, rfl⟩
  have kV : Hid (V = digs (y * 2 ^ s)) := ⟨hVV⟩
  rw [← hVV] at kF hVl kT ⊢
  clear hVV
  refine xloop_for (fun z : Nat × List Int × List Int => [(4, .own q 0 m m), (6, .int s), (7, intLst false V), (8, .own p 0 N cap), (9, .int K), (10, .int ((z.1 : Int) - 1))]) (fun z => (q, .arr T.int (intRow z.2.2)) :: (p, .arr T.int (intRow z.2.1 ++ C)) :: st) (fun z => Hid (z.1 ≤ m ∧ z.2.2.length = m ∧ LInv ((x * 2 ^ s : Nat) : Int) V z.2.1 z.2.2 z.1)) (fun z => z.1) (m, W.take N, List.replicate m 0) ⟨Nat.le_refl _, by simp, kF.out⟩ (by simp [w6]) (by simp [intRow_rep]) ?_
  rintro ⟨r, U, Q⟩ ⟨hr, hQ, hI⟩
  simp only at hr hQ hI ⊢
  cases r with
  | zero =>
    have hy0 : y ≠ 0 := by rintro rfl; have := kH.out.1; rw [dl_zero] at this; omega
    obtain ⟨f1, f2⟩ := LInv.fin2 (a := x) (b := y) (s := s) hy0 (by rw [← kV.out]; exact hI)
    have lU := hI.len
    have hK := km.out
    have hNm := kN.out
    obtain ⟨ds, hds⟩ : ∃ ds, ds = 2 ^ s := ⟨_, rfl⟩
    have hds0 : 0 < ds := by rw [hds]; exact Nat.pow_pos (by decide)
    have hds2 : ds ≤ 536870912 := by rw [hds]; exact Nat.pow_le_pow_right (n := 2) (by decide) (show s ≤ 29 by omega)
    have ws : IntKind.i64.wrap (2 ^ min s IntKind.i64.bits) = (ds : Int) := by
      have e : min s IntKind.i64.bits = s := Nat.min_eq_left (by show s ≤ 64; omega)
      have e2 : ((2 ^ s : Nat) : Int) = 2 ^ s := by push_cast; rfl
      rw [e, ← e2, ← hds]
      exact wrap_in (by omega) (by omega)
    have lU2 : U.length = N := by omega
    have ht1 := trim_own p cap U C (by omega) (by omega) ((q, .arr T.int (intRow Q)) :: (p, .arr T.int (intRow U ++ C)) :: st) (by simp [hq])
    rw [lU2] at ht1
    have hsh := short_spec false (digs (x % y * ds)) (x % y * ds) ds (dv_digs _) (digs_ok _) (by rw [hds, ← f1]; have := trimD_le U; omega) hds0 (by omega)
    rw [Nat.mul_div_cancel _ hds0] at hsh
    rw [← hds] at f1
    have ht2 := trim_own q m Q [] (by omega) (by omega) ((q, .arr T.int (intRow Q)) :: st) (by simp)
    rw [hQ] at ht2
    have kU : Hid (U.length ≤ cap ∧ trimD U = digs (x % y * ds)) := ⟨by omega, f1⟩
    rw [← f2]
    clear f1 f2 hI lU hK hNm hds kT hxl hy2 hgd hjl lU2
    repeat' (simp -dsimp -implicitDefEqProofs [*])
    refine DrawLate.intro [p] ?_
    repeat' (first 
     | (with_reducible refine Rets.xcall (ht1) ?_)
     | (simp -dsimp -implicitDefEqProofs [*]))
    have ha := Frzs.trim (b := p) (T := T.int) (C := C) (x := (ds : Int)) kU.out.1 hc2
    rw [kU.out.2] at ha
    rw [kU.out.2]
    refine xcall_frz (st' := (q, .arr T.int (intRow Q)) :: st) (by simp [*]) (StLe.swap hq.1.1) ha (hsh _) ?_
    clear ha
    repeat' (first 
     | (with_reducible refine Rets.xcall (ht2) ?_)
     | (with_reducible refine Cls_and ?_ ?_)
     | (with_reducible refine Cls_same ?_)
     | (simp -dsimp -implicitDefEqProofs [*]))
    · exact Cls_out
    · exact .trimL hqn (by omega) (by omega) (.same ⟨rfl, rfl⟩)
  | succ i =>
    obtain ⟨lo, D, tp, hi, w⟩ := hI.win (by rw [kV.out]; exact digs_ok _)
    have lD : D.length = k + 2 := by rw [w.lD, hVl, kK.out]
    have lV : V.length = k + 2 := by rw [hVl, kK.out]
    have okV : dOk V := by rw [kV.out]; exact digs_ok _
    have hv1t : 536870912 ≤ V[k + 1] := kT.out (by rw [lV]; omega)
    have kn := w.kn lV okV hv1t
    have b1 := dOk_get okV (i := k + 1) (by omega)
    have b2 := dOk_get okV (i := k) (by omega)
    have b3 := dOk_get w.okD (i := k + 1) (by omega)
    have b4 := dOk_get w.okD (i := k) (by omega)
    have b5 : 0 ≤ tp ∧ tp < BB := ⟨w.tp0, w.tpB⟩
    have b6 : i + K < N := by have := kN.out; omega
    have b7 : K = k + 2 := kK.out
    obtain ⟨R, hR⟩ : ∃ R, R = intRow U ++ C := ⟨_, rfl⟩
    have eR : R = intRow (lo ++ (D ++ tp :: hi)) ++ C := by rw [hR]; conv => lhs; rw [w.eq]
    have r1 : R[i + K]? = some (.int tp) := by rw [eR]; exact wr_top w.llo (by rw [lD, b7])
    have r2 : R[i + (k + 1)]? = some (.int D[k + 1]) := by rw [eR]; exact wr_dig w.llo (by omega)
    have r3 : R[i + k]? = some (.int D[k]) := by rw [eR]; exact wr_dig w.llo (by omega)
    have kR : Hid (R = intRow (lo ++ (D ++ tp :: hi)) ++ C) := ⟨eR⟩
    rw [← hR]
    clear hR eR
    obtain ⟨a1, ha1⟩ : ∃ a1, a1 = i + K := ⟨_, rfl⟩
    obtain ⟨a2, ha2⟩ : ∃ a2, a2 = i + (k + 1) := ⟨_, rfl⟩
    obtain ⟨a3, ha3⟩ : ∃ a3, a3 = i + k := ⟨_, rfl⟩
    obtain ⟨c1, hc1⟩ : ∃ c1, c1 = k + 1 := ⟨_, rfl⟩
    rw [← ha1] at r1 b6
    rw [← ha2] at r2
    rw [← ha3] at r3
    have m2 : a2 < N := by omega
    have m3 : a3 < N := by omega
    have w1 : IntKind.i64.wrap ((i : Int) + K) = a1 := by rw [wrap_in (by omega) (by omega)]; omega
    have w2 : IntKind.i64.wrap ((a1 : Int) - 1) = a2 := by rw [wrap_in (by omega) (by omega)]; omega
    have w3 : IntKind.i64.wrap ((a1 : Int) - 2) = a3 := by rw [wrap_in (by omega) (by omega)]; omega
    have w4 : IntKind.i64.wrap ((K : Int) - 1) = c1 := by rw [wrap_in (by omega) (by omega)]; omega
    have w5 : IntKind.i64.wrap ((K : Int) - 2) = k := by rw [wrap_in (by omega) (by omega)]; omega
    have m4 : c1 < V.length := by omega
    have m5 : k < V.length := by omega
    have gv1 : V[c1] = V[k + 1] := by subst hc1; rfl
    obtain ⟨v1, ev1⟩ : ∃ v1, V[k + 1] = v1 := ⟨_, rfl⟩
    obtain ⟨v2, ev2⟩ : ∃ v2, V[k] = v2 := ⟨_, rfl⟩
    obtain ⟨d1, ed1⟩ : ∃ d1, D[k + 1] = d1 := ⟨_, rfl⟩
    obtain ⟨d2, ed2⟩ : ∃ d2, D[k] = d2 := ⟨_, rfl⟩
    rw [ev1] at kn b1 gv1 hv1t
    rw [ev2] at kn b2
    rw [ed1] at kn b3 r2
    rw [ed2] at kn b4 r3
    unfold BB at b1 b2 b3 b4 b5
    obtain ⟨b1a, b1b⟩ := b1
    obtain ⟨b3a, b3b⟩ := b3
    obtain ⟨b5a, b5b⟩ := b5
    have b5c : tp ≤ 8589934591 := by omega
    obtain ⟨g0, hg0⟩ : ∃ g0, g0 = min ((tp * BB + d1) / v1) 1073741823 := ⟨_, rfl⟩
    have kg := kn.start hg0
    obtain ⟨q0, hq0⟩ : ∃ q0, q0 = (tp * 1073741824 + d1) / v1 := ⟨_, rfl⟩
    have hh0 : 0 ≤ tp * 1073741824 + d1 := by omega
    have q1 : (tp * 1073741824 + d1).tdiv v1 = q0 := by rw [hq0]; exact Int.tdiv_eq_ediv_of_nonneg hh0
    have q2 : 0 ≤ q0 ∧ q0 ≤ 9223372036854775807 := by
      rw [hq0]
      have := Int.ediv_le_self v1 hh0
      exact ⟨Int.ediv_nonneg hh0 (by omega), by omega⟩
    have w7 : IntKind.i64.wrap q0 = q0 := wrap_in (by omega) (by omega)
    have eg : (if 1073741823 < q0 then 1073741823 else q0) = g0 := by
      rw [hg0]; unfold BB; rw [← hq0]; split <;> omega
    have w8 : IntKind.i64.wrap (tp * 2 ^ min 30 IntKind.i64.bits) = tp * 1073741824 := shl30 (by omega) (by omega)
    have nv1 : ¬ v1 = 0 := by omega
    have kA : Hid (a1 = i + K ∧ a2 = i + (k + 1) ∧ a3 = i + k ∧ c1 = k + 1 ∧ K = k + 2) := ⟨ha1, ha2, ha3, hc1, b7⟩
    have kHi : Hid (g0 = min ((tp * BB + d1) / v1) 1073741823) := ⟨hg0⟩
    have kI : Hid (LInv ((x * 2 ^ s : Nat) : Int) V U Q (i + 1)) := ⟨hI⟩
    have kW : Hid (LWin V U lo D tp hi i) := ⟨w⟩
    clear ha1 ha2 ha3 hc1 b7 hg0 hq0 hI w kF ev1 ed1 ed2 hh0 kT hxl hy2 hgd hjl okV lD lV
    repeat' (first 
     | ((with_reducible refine and_keep ?_ fun hk => ?_); omega)
     | (simp -dsimp -implicitDefEqProofs [*]))
    refine xloop_for (fun g : Int => [(4, .own q 0 m m), (6, .int s), (7, intLst false V), (8, .own p 0 N cap), (9, .int K), (10, .int i), (11, .int (tp * 1073741824 + d1)), (12, .int g)]) (fun _ => (q, .arr T.int (intRow Q)) :: (p, .arr T.int R) :: st) (fun g => Hid ((dv D + PB V.length * tp) / dv V ≤ g ∧ g < BB ∧ 0 ≤ g ∧ 0 ≤ tp * BB + d1 - g * v1 ∧ tp * BB + d1 - g * v1 < 2147483648)) (fun g => g.toNat) g0 ⟨kg⟩ (by simp) (.refl _) ?_
    rintro g ⟨G⟩
    clear q1 q2 w7 eg kHi kg
    have c1 := mul_range (c := 0) (d := 0) ⟨G.2.2.1, G.2.1⟩ b2 (by decide) (by decide)
    have c2 := mul_range (c := 0) (d := 0) ⟨G.2.2.1, G.2.1⟩ ⟨b1a, b1b⟩ (by decide) (by decide)
    obtain ⟨e, he⟩ : ∃ e, e = tp * BB + d1 - g * v1 := ⟨_, rfl⟩
    have kG : Hid ((dv D + PB V.length * tp) / dv V ≤ g ∧ g < BB ∧ 0 ≤ g ∧ 0 ≤ e ∧ e < 2147483648) := ⟨by rw [he]; exact G⟩
    have ke : Hid (e = tp * BB + d1 - g * v1) := ⟨he⟩
    unfold BB at he
    have x1 : IntKind.i64.wrap (g * v2) = g * v2 := wrap_in (by omega) (by omega)
    have x2 : IntKind.i64.wrap (g * v1) = g * v1 := wrap_in (by omega) (by omega)
    have x3 : IntKind.i64.wrap (tp * 1073741824 + d1 - g * v1) = e := by rw [← he]; exact wrap_in (by have := kG.out; omega) (by have := kG.out; omega)
    have x4 : IntKind.i64.wrap (e * 2 ^ min 30 IntKind.i64.bits) = e * 1073741824 := shl30 (by have := kG.out; omega) (by have := kG.out; omega)
    have x5 : 0 ≤ e := kG.out.2.2.2.1
    have x6 : e ≤ 8589934591 := by have := kG.out; omega
    have hc : (¬ e * 1073741824 + d2 < g * v2 ∧ Hid (g * v2 ≤ e * BB + d2 ∨ 1073741823 < e)) ∨ (e * 1073741824 + d2 < g * v2 ∧ ¬ e ≤ 1073741823 ∧ Hid (g * v2 ≤ e * BB + d2 ∨ 1073741823 < e)) ∨ (e * 1073741824 + d2 < g * v2 ∧ e ≤ 1073741823) := by
      unfold BB
      by_cases h1 : e * 1073741824 + d2 < g * v2
      · by_cases h2 : e ≤ 1073741823
        · exact .inr (.inr ⟨h1, h2⟩)
        · exact .inr (.inl ⟨h1, h2, ⟨.inr (by omega)⟩⟩)
      · exact .inl ⟨h1, ⟨.inl (by omega)⟩⟩
    obtain ⟨b2a, b2b⟩ := b2
    obtain ⟨b4a, b4b⟩ := b4
    have kq : Hid (0 ≤ g ∧ g < BB) := ⟨G.2.2.1, G.2.1⟩
    clear he c1 c2 G
    rcases hc with ⟨n1, hst⟩ | ⟨y1, n2, hst⟩ | ⟨y1, y2⟩
    rotate_left 2
    · have kl := kn.less kG.out.1 kG.out.2.1 (by rw [← ke.out]; exact kG.out.2.2.2.1) (by rw [← ke.out]; exact y1) (by rw [← ke.out]; exact y2)
      have x7 : IntKind.i64.wrap (g - 1) = g - 1 := by have := kq.out; unfold BB at this; exact wrap_in (by omega) (by omega)
      have kl : Hid _ := ⟨kl⟩
      clear kn
      repeat' (first 
       | ((with_reducible refine and_keep ?_ fun hk => ?_); omega)
       | (simp -dsimp -implicitDefEqProofs [*]))
      exact Next.intro (g - 1) kl (by have := kl.out.2.2.1; omega) (by simp) (.refl _)
    all_goals
      have kst := kn.stop kG.out.1 kG.out.2.1 kG.out.2.2.1 (by rw [← ke.out]; exact hst.out)
      have kst : Hid (-dv V ≤ dv D + PB V.length * tp - g * dv V ∧ dv D + PB V.length * tp - g * dv V < dv V) := ⟨kst⟩
      clear kn kG ke hst
      repeat' (first 
       | ((with_reducible refine and_keep ?_ fun hk => ?_); omega)
       | (simp -dsimp -implicitDefEqProofs [*]))
      clear x1 x2 x3 x4 x5 x6 w8 r1 r2 r3 b2a b2b b4a b4b b1a b1b b3a b3b
      have H : ∃ f : Nat → Int, ∀ j, f j = dAt D j - g * dAt V j := ⟨fun j => dAt D j - g * dAt V j, fun _ => rfl⟩
      obtain ⟨f, hf⟩ := H
      have H : ∃ RW : Nat → List PV, ∀ j, RW j = intRow (lo ++ ((carD f j).1 ++ D.drop j ++ tp :: hi)) ++ C := ⟨fun j => intRow (lo ++ ((carD f j).1 ++ D.drop j ++ tp :: hi)) ++ C, fun _ => rfl⟩
      obtain ⟨RW, hRW⟩ := H
      have eR0 : R = RW 0 := by rw [kR.out, hRW 0]; rfl
      rw [eR0]
      clear kR eR0
      refine xloop_for (fun j : Nat => [(4, .own q 0 m m), (6, .int s), (7, intLst false V), (8, .own p 0 N cap), (9, .int K), (10, .int i), (12, .int g), (13, .int (carD f j).2), (120, .int K), (121, .int j)]) (fun j => (q, .arr T.int (intRow Q)) :: (p, .arr T.int (RW j)) :: st) (fun j => j ≤ K) (fun j => K - j) 0 (Nat.zero_le _) (by simp [carD]) (.refl _) ?_
      intro j hj
      have okD := kW.out.okD
      have lD : D.length = K := by rw [kW.out.lD, hVl]
      have llo := kW.out.llo
      have okV : dOk V := by rw [kV.out]; exact digs_ok _
      have hKb : K ≤ 20100 := by have := kN.out; omega
      by_cases hjK : j < K
      · obtain ⟨a, ha⟩ : ∃ a, a = i + j := ⟨_, rfl⟩
        have hjD : j < D.length := by omega
        have hjV : j < V.length := by omega
        have rr : (RW j)[a]? = some (.int D[j]) := by rw [hRW, ha]; exact wr_get llo (carD_len f j) hjD
        have rs : Hid ((RW j).set a (.int ((f j + (carD f j).2) % 1073741824)) = RW (j + 1)) := ⟨by rw [hRW, hRW, ha]; exact wr_set llo hjD⟩
        have y1 := dOk_get okD hjD
        have y2 := dOk_get okV hjV
        have c1 := mul_range (c := 0) (d := 0) kq.out y2 (by decide) (by decide)
        have c2 := carD_over (f := f) (n := j) fun l hl => by
          have z1 := dAt_ok okD l
          have z2 := mul_range (c := 0) (d := 0) kq.out (dAt_ok okV l) (by decide) (by decide)
          rw [hf l]
          unfold BB at z1
          omega
        have ef : f j = D[j] - g * V[j] := by rw [hf j, dAt_lt hjD, dAt_lt hjV]
        obtain ⟨dj, edj⟩ : ∃ dj, D[j] = dj := ⟨_, rfl⟩
        obtain ⟨vj, evj⟩ : ∃ vj, V[j] = vj := ⟨_, rfl⟩
        rw [edj] at rr y1 ef
        rw [evj] at y2 c1 ef
        unfold BB at y1
        have x1 : IntKind.i64.wrap (g * vj) = g * vj := wrap_in (by omega) (by omega)
        have x2 : IntKind.i64.wrap (dj - g * vj) = f j := by rw [ef]; exact wrap_in (by omega) (by omega)
        have x3 : IntKind.i64.wrap (f j + (carD f j).2) = f j + (carD f j).2 := wrap_in (by omega) (by omega)
        have x4 : IntKind.i64.wrap ((i : Int) + j) = a := by rw [ha, wrap_in (by omega) (by omega)]; omega
        have x5 := wrap_succ (n := j) (by omega)
        have haN : a < N := by have := kN.out; omega
        have hRl : a + 1 ≤ (RW j).length := by obtain ⟨h, -⟩ := List.getElem?_eq_some_iff.1 rr; omega
        clear hRW ha ef y1 y2 c1 c2 edj okD okV lD llo hf kst
        repeat' (simp -dsimp -implicitDefEqProofs [*])
        refine Next.intro (j + 1) (by omega) (by omega) (by simp [carD_succ, shr30n]) ?_
        rw [rs.out]
        exact .refl _
      · have e : j = K := by omega
        subst e
        have hR2 := hRW j
        rw [List.drop_of_length_le (by omega), List.append_nil] at hR2
        have okM := carD_ok f j
        have lM := carD_len f j
        have htop := kn_top (top := tp) hf lD hVl okV (by rw [← hVl]; exact kst.out.1) (by rw [← hVl]; exact kst.out.2)
        obtain ⟨M, hM⟩ : ∃ M, M = (carD f j).1 := ⟨_, rfl⟩
        obtain ⟨ow, how⟩ : ∃ ow, (carD f j).2 = ow := ⟨_, rfl⟩
        rw [← hM] at okM lM htop hR2
        rw [how] at htop
        obtain ⟨R2, eR2⟩ : ∃ R2, RW j = R2 := ⟨_, rfl⟩
        rw [eR2] at hR2
        clear hRW
        have rr : R2[a1]? = some (.int tp) := by rw [hR2, kA.out.1]; exact wr_top llo lM
        have hRl : a1 + 1 ≤ R2.length := by obtain ⟨h, -⟩ := List.getElem?_eq_some_iff.1 rr; omega
        obtain ⟨o, ho⟩ : ∃ o, o = tp + ow := ⟨_, rfl⟩
        have rs : R2.set a1 (.int o) = intRow (lo ++ (M ++ o :: hi)) ++ C := by rw [hR2, kA.out.1]; exact wr_topset llo lM
        have HR : ∃ R, R = intRow (lo ++ (M ++ o :: hi)) ++ C := ⟨_, rfl⟩
        obtain ⟨R3, hR3⟩ := HR
        have rr3 : R3[a1]? = some (.int o) := by rw [hR3, kA.out.1]; exact wr_top llo lM
        have hRl3 : a1 + 1 ≤ R3.length := by obtain ⟨h, -⟩ := List.getElem?_eq_some_iff.1 rr3; omega
        rw [← hR3] at rs
        have ho2 : ow + tp = o := by omega
        rw [ho2] at htop
        have x1 : IntKind.i64.wrap ((i : Int) + j) = a1 := by rw [wrap_in (by omega) (by omega)]; have := kA.out; omega
        have x2 : IntKind.i64.wrap (tp + ow) = o := by rw [← ho]; exact wrap_in (by omega) (by omega)
        have kR2 : Hid (R3 = intRow (lo ++ (M ++ o :: hi)) ++ C) := ⟨hR3⟩
        have kM : Hid (dOk M ∧ M.length = j ∧ lo.length = i) := ⟨okM, lM, llo⟩
        have iQ : i < Q.length := by omega
        have iM : i < m := by omega
        rcases htop with ⟨o0, hvM⟩ | ⟨o0, hvM, hneg⟩
        · subst o0
          have kS : Hid (LInv ((x * 2 ^ s : Nat) : Int) V (lo ++ (M ++ 0 :: hi)) (Q.set i g) i) := ⟨kI.out.step kW.out okM (by rw [lM, hVl]) (by rw [hVl]; exact hvM) (by rw [hvM, ← hVl]; exact kst.out.2) kq.out⟩
          have x5 : IntKind.i64.wrap ((i : Int) - 1) = (i : Int) - 1 := wrap_in (by omega) (by omega)
          clear hR2 hR3 ho ho2 hvM okM lM okD lD llo okV hM hf kst
          repeat' (simp -dsimp -implicitDefEqProofs [*])
          refine Next.intro (i, lo ++ (M ++ 0 :: hi), Q.set i g) ⟨by simp only; omega, by simp only [List.length_set]; omega, kS.out⟩ (by simp only; omega) (by simp) ?_
          simp only
          rw [kR2.out, intRow_set]
          exact .refl _
        · have g1 : 0 ≤ g - 1 := by
            have z1 := dv_nonneg okD
            have z2 : 0 ≤ PB j * tp := Int.mul_nonneg (by have := PB_pos j; omega) b5a
            apply Int.not_lt.1
            intro hc
            have : g = 0 := by have := kq.out; omega
            subst this
            rw [Int.zero_mul] at hneg
            omega
          have n0 : o < 0 := by omega
          have x3 : IntKind.i64.wrap (g - 1) = g - 1 := by have := kq.out; unfold BB at this; exact wrap_in (by omega) (by omega)
          have H : ∃ f : Nat → Int, ∀ l, f l = dAt M l + dAt V l := ⟨fun l => dAt M l + dAt V l, fun _ => rfl⟩
          obtain ⟨f2, hf2⟩ := H
          have kst2 : Hid _ := ⟨kn_back hf2 lM hVl hvM (by rw [← hVl]; exact kst.out.1) hneg okV⟩
          have kvM : Hid (dv M = dv D + PB j * tp - g * dv V + PB j ∧ dv D + PB j * tp - g * dv V < 0) := ⟨hvM, hneg⟩
          subst o0
          clear hR2 hR3 ho ho2 hvM okM lM okD lD llo hM hf hneg
          repeat' (simp -dsimp -implicitDefEqProofs [*])
          have H : ∃ RW : Nat → List PV, ∀ l, RW l = intRow (lo ++ ((carD f2 l).1 ++ M.drop l ++ (-1) :: hi)) ++ C := ⟨fun l => intRow (lo ++ ((carD f2 l).1 ++ M.drop l ++ (-1) :: hi)) ++ C, fun _ => rfl⟩
          obtain ⟨RX, hRX⟩ := H
          have eR0 : R3 = RX 0 := by rw [kR2.out, hRX 0]; rfl
          rw [eR0]
          clear rr hRl rs rr3 hRl3 x1 x2 x3 kR2 eR0 eR2
          refine xloop_for (fun l : Nat => [(4, .own q 0 m m), (6, .int s), (7, intLst false V), (8, .own p 0 N cap), (9, .int j), (10, .int i), (12, .int (g - 1)), (16, .int (carD f2 l).2), (168, .int j), (169, .int l)]) (fun l => (q, .arr T.int (intRow Q)) :: (p, .arr T.int (RX l)) :: st) (fun l => l ≤ j) (fun l => j - l) 0 (Nat.zero_le _) (by simp [carD]) (.refl _) ?_
          intro l hl
          obtain ⟨okM, lM, llo⟩ := kM.out
          by_cases hlj : l < j
          · obtain ⟨a, ha⟩ : ∃ a, a = i + l := ⟨_, rfl⟩
            have hlM : l < M.length := by omega
            have hlV : l < V.length := by omega
            have rr : (RX l)[a]? = some (.int M[l]) := by rw [hRX, ha]; exact wr_get llo (carD_len f2 l) hlM
            have rs : Hid ((RX l).set a (.int ((f2 l + (carD f2 l).2) % 1073741824)) = RX (l + 1)) := ⟨by rw [hRX, hRX, ha]; exact wr_set llo hlM⟩
            have y1 := dOk_get okM hlM
            have y2 := dOk_get okV hlV
            have c2 := carD_over (f := f2) (n := l) fun l hl => by
              have z1 := dAt_ok okM l
              have z2 := dAt_ok okV l
              rw [hf2 l]
              unfold BB at z1 z2
              omega
            have ef : f2 l = M[l] + V[l] := by rw [hf2 l, dAt_lt hlM, dAt_lt hlV]
            obtain ⟨dj, edj⟩ : ∃ dj, M[l] = dj := ⟨_, rfl⟩
            obtain ⟨vj, evj⟩ : ∃ vj, V[l] = vj := ⟨_, rfl⟩
            rw [edj] at rr y1 ef
            rw [evj] at y2 ef
            unfold BB at y1 y2
            have x2 : IntKind.i64.wrap (dj + vj) = f2 l := by rw [ef]; exact wrap_in (by omega) (by omega)
            have x3 : IntKind.i64.wrap (f2 l + (carD f2 l).2) = f2 l + (carD f2 l).2 := wrap_in (by omega) (by omega)
            have x4 : IntKind.i64.wrap ((i : Int) + l) = a := by rw [ha, wrap_in (by omega) (by omega)]; omega
            have x5 := wrap_succ (n := l) (by omega)
            have haN : a < N := by have := kN.out; omega
            have hRl : a + 1 ≤ (RX l).length := by obtain ⟨h, -⟩ := List.getElem?_eq_some_iff.1 rr; omega
            clear hRX ha ef y1 y2 c2 edj okM okV lM llo hf2 kst2
            repeat' (simp -dsimp -implicitDefEqProofs [*])
            refine Next.intro (l + 1) (by omega) (by omega) (by simp [carD_succ, shr30n]) ?_
            rw [rs.out]
            exact .refl _
          · have e : l = j := by omega
            subst e
            have hR4 := hRX l
            rw [List.drop_of_length_le (by omega), List.append_nil] at hR4
            have okM2 := carD_ok f2 l
            have lM2 := carD_len f2 l
            obtain ⟨e1, e2⟩ := kst2.out
            obtain ⟨M2, hM2⟩ : ∃ M2, M2 = (carD f2 l).1 := ⟨_, rfl⟩
            rw [← hM2] at okM2 lM2 e2 hR4
            obtain ⟨R4, eR4⟩ : ∃ R4, RX l = R4 := ⟨_, rfl⟩
            rw [eR4] at hR4
            clear hRX
            have rr : R4[a1]? = some (.int (-1)) := by rw [hR4, kA.out.1]; exact wr_top llo lM2
            have hRl : a1 + 1 ≤ R4.length := by obtain ⟨h, -⟩ := List.getElem?_eq_some_iff.1 rr; omega
            have rs : Hid (R4.set a1 (.int 0) = intRow (lo ++ (M2 ++ 0 :: hi)) ++ C) := ⟨by rw [hR4, kA.out.1]; exact wr_topset llo lM2⟩
            have x1 : IntKind.i64.wrap ((i : Int) + l) = a1 := by rw [wrap_in (by omega) (by omega)]; have := kA.out; omega
            have x5 : IntKind.i64.wrap ((i : Int) - 1) = (i : Int) - 1 := wrap_in (by omega) (by omega)
            have kS : Hid (LInv ((x * 2 ^ s : Nat) : Int) V (lo ++ (M2 ++ 0 :: hi)) (Q.set i (g - 1)) i) := ⟨kI.out.step kW.out okM2 (by rw [lM2, hVl]) (by rw [hVl, e2, Int.sub_mul, Int.one_mul]; omega) (by rw [e2]; have := kvM.out.2; omega) ⟨g1, by have := kq.out; omega⟩⟩
            have z0 : IntKind.i64.wrap 0 = 0 := wrap_in (by decide) (by decide)
            clear hR4 e2 okM2 lM2 hM2 okM lM llo okV kst2 hf2
            repeat' (simp -dsimp -implicitDefEqProofs [*])
            refine Next.intro (i, lo ++ (M2 ++ 0 :: hi), Q.set i (g - 1)) ⟨by simp only; omega, by simp only [List.length_set]; omega, kS.out⟩ (by simp only; omega) (by simp) ?_
            simp only
            rw [rs.out, intRow_set]
            exact .refl _
end Go.Proofs.Ytliglilanpfjhaa
