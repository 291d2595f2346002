/- Sort. -/
import Derived.Test.YtliglilanpfjhaaS21ZK
namespace Go.Proofs.Ytliglilanpfjhaa
open Go.Pv
set_option maxRecDepth 100000
set_option maxHeartbeats 8000000
def vec2 (l : List Ke) (x : Ky) : List Rat := vec l x ++ [(x.entry : Rat)]
theorem vec2_len (l : List Ke) (x : Ky) : (vec2 l x).length = l.length + 2 := by simp [vec2, vec_len]
theorem lexc_one (a b : Int) (i : Nat) : (lexc [(a : Rat)] [(b : Rat)] i).1 = cmpZ a b := by
  rw [lexc_cons, cmpR_int]
  split
  · rename_i h; rw [h]; rfl
  · rfl
theorem vec2_lexc (l : List Ke) (x y : Ky) : (lexc (vec2 l x) (vec2 l y) 0).1 = if (lexc (vec l x) (vec l y) 0).1 = 0 then cmpZ x.entry y.entry else (lexc (vec l x) (vec l y) 0).1 := by
  unfold vec2
  rw [lexc_append (by rw [vec_len, vec_len])]
  split
  · rw [lexc_one]
  · rfl
theorem or_spec (t : Bool) (a d : Int) (st : Store) : Rets P F.cmp_Or__int [.list t [.int a, .int d] 2] st (.int (if a = 0 then d else a)) := by
  refine H.cmp_Or__int.view hmix rfl rfl ?_
  have e1 : ∀ h, ([.int a, .int d] : List PV)[0]'h = .int a := fun _ => rfl
  have e2 : ∀ h, ([.int a, .int d] : List PV)[1]'h = .int d := fun _ => rfl
  repeat' (simp -dsimp -implicitDefEqProofs [*])
  refine xloop_for (fun n : Nat => [(3, .int 0), (6, .list t [.int a, .int d] 2), (7, .int 2), (8, .int n)]) (fun _ => st) (fun n => n = 0 ∨ n = 1 ∧ a = 0 ∨ n = 2 ∧ a = 0 ∧ d = 0) (fun n => 2 - n) 0 (.inl rfl) (by simp) (.refl _) ?_
  have w1 : IntKind.i64.wrap 1 = 1 := rfl
  have w2 : IntKind.i64.wrap 2 = 2 := rfl
  rintro n (rfl | ⟨rfl, rfl⟩ | ⟨rfl, rfl, rfl⟩)
  · by_cases h : a = 0
    · subst h
      repeat' (simp -dsimp -implicitDefEqProofs [*])
      exact Next.intro 1 (.inr (.inl ⟨rfl, rfl⟩)) (by omega) (by simp) (by repeat' (first | exact StLe.refl _ | (refine StLe_cons (by simp [*]; done) ?_) | (refine StLe_fresh (by simp [*]; done) ?_)))
    · have e : (if a = 0 then d else a) = a := if_neg h
      rw [e]
      repeat' (simp -dsimp -implicitDefEqProofs [*])
      exact .same ⟨rfl, rfl⟩
  · by_cases h : d = 0
    · subst h
      repeat' (simp -dsimp -implicitDefEqProofs [*])
      exact Next.intro 2 (.inr (.inr ⟨rfl, rfl, rfl⟩)) (by omega) (by simp) (by repeat' (first | exact StLe.refl _ | (refine StLe_cons (by simp [*]; done) ?_) | (refine StLe_fresh (by simp [*]; done) ?_)))
    · repeat' (simp -dsimp -implicitDefEqProofs [*])
      exact .same ⟨rfl, rfl⟩
  · repeat' (simp -dsimp -implicitDefEqProofs [*])
    exact .same ⟨rfl, rfl⟩
theorem before_spec (l : List Ke) (hk : Keys l) (hl : l.length ≤ 100000) (L : List Ky) (hL : ∀ x ∈ L, wrongK l x = false) (i k : Nat) (hi : i < L.length) (hk2 : k < L.length) (hL2 : L.length ≤ 100000) (st : Store) :
    Rets P F.ties_sorter_before [.agg [.list false (hasRow l) l.length, .list false (firstRow l) (l.length + 1), Ky.lst L], .int i, .int k] st (.int (lexc (vec2 l L[i]) (vec2 l L[k]) 0).1) := by
  have cc := ordCompare_spec l hk hl L[i] L[k] (hL _ (List.getElem_mem hi)) (hL _ (List.getElem_mem hk2))
  rw [vec2_lexc]
  unfold ordC at cc
  obtain ⟨F1, hF1⟩ : ∃ v, v = firstRow l := ⟨_, rfl⟩
  obtain ⟨H1, hH1⟩ : ∃ v, v = hasRow l := ⟨_, rfl⟩
  obtain ⟨r, hr⟩ : ∃ r, r = lexc (vec l L[i]) (vec l L[k]) 0 := ⟨_, rfl⟩
  rw [← hF1, ← hH1, ← hr] at cc
  rw [← hF1, ← hH1, ← hr]
  have g1 := Ky.row_sub L i hi
  have g2 := Ky.row_sub L k hk2
  have g3 := Ky.row_get0 L i hi
  have g4 := Ky.row_get0 L k hk2
  have g5 : ∀ h, (Ky.row L)[i * 10]'h = .int L[i].entry := fun h => by
    rw [List.getElem?_eq_getElem h] at g3
    exact Option.some.inj g3
  have g6 : ∀ h, (Ky.row L)[k * 10]'h = .int L[k].entry := fun h => by
    rw [List.getElem?_eq_getElem h] at g4
    exact Option.some.inj g4
  have i10 : i * 10 < L.length * 10 := by omega
  have k10 : k * 10 < L.length * 10 := by omega
  have c2 := cmp_spec L[i].entry L[k].entry
  obtain ⟨x, hx⟩ : ∃ x, x = L[i] := ⟨_, rfl⟩
  obtain ⟨y, hy⟩ : ∃ x, x = L[k] := ⟨_, rfl⟩
  rw [← hx] at cc g1 g5 c2 ⊢
  rw [← hy] at cc g2 g6 c2 ⊢
  have c3 := or_spec true r.1 (cmpZ x.entry y.entry)
  clear hF1 hH1 hr g3 g4 hx hy hL hk hl
  refine H.ties_sorter_before.pure hmix rfl rfl ?_
  repeat' (first 
   | (with_reducible refine Fresh.intro fun b hb => ?_) <;> (try simp -dsimp -implicitDefEqProofs [*] at hb)
   | (with_reducible refine Rets.xcall (cc _) ?_)
   | (with_reducible refine Rets.xcall (c2 _) ?_)
   | (with_reducible refine Rets.xcall (c3 _) ?_)
   | (with_reducible refine DrawLate.intro [] ?_)
   | (simp -dsimp -implicitDefEqProofs [-Ky.row_sub, -Ky.row_get0, *]))
/-- The order of indexes by what is compared. -/
def keyI (l : List Ke) (L : List Ky) (i : Int) : Int := (rankL L.length (fun j => vec2 l (L.getD j default)) i.toNat : Nat)
def idxs (n : Nat) : List Int := (List.range n).map Int.ofNat
theorem idxs_len (n : Nat) : (idxs n).length = n := by simp [idxs]
theorem idxs_succ (n : Nat) : idxs (n + 1) = idxs n ++ [(n : Int)] := by simp [idxs, List.range_succ]
theorem mem_idxs {n : Nat} {x : Int} : x ∈ idxs n ↔ ∃ i : Nat, i < n ∧ x = i := by
  simp only [idxs, List.mem_map, List.mem_range]
  constructor
  · rintro ⟨i, h, rfl⟩; exact ⟨i, h, rfl⟩
  · rintro ⟨i, h, rfl⟩; exact ⟨i, h, rfl⟩
theorem keyI_cmp (l : List Ke) (L : List Ky) (i k : Nat) (hi : i < L.length) (hk : k < L.length) : (lexc (vec2 l L[i]) (vec2 l L[k]) 0).1 = cmpZ (keyI l L i) (keyI l L k) := by
  have := lexc_rank (n := L.length) (v := fun j => vec2 l (L.getD j default)) (k := l.length + 2) (fun j => vec2_len _ _) hi hk
  simp only [List.getD_eq_getElem?_getD, List.getElem?_eq_getElem hi, List.getElem?_eq_getElem hk, Option.getD_some] at this
  rw [this]
  rfl
def sortE (l : List Ke) (L : List Ky) : Int := if (plainK l && !L.any (wrongK (okKeys l))) = true then 0 else 210
def sortA (l : List Ke) (L : List Ky) : List Int := if sortE l L = 0 then srt (keyI (okKeys l) L) (idxs L.length) else []
theorem sortT_spec (l : List Ke) (hl : l.length ≤ 100000) (L : List Ky) (hL : L.length < 20) (hy : ∀ x ∈ L, Ky.Len x) (st : Store) : Rets P F.ties_Sort [Ke.lst l, Ky.lst L] st (.tuple [intLst false (sortA l L), .int (sortE l L)]) := by
  have cp := plain_spec l hl
  have hle := okKeys_le l
  have c1 := contY_spec (.func (.func F.ties_order_wrong) [.agg (ordC (okKeys l))] []) F.ties_order_wrong [.agg (ordC (okKeys l))] rfl (wrongK (okKeys l)) L (fun d hd st => wrong_spec (okKeys l) (okKeys_keys l) (by omega) d (hy d hd) st) (by omega)
  have cs : L.any (wrongK (okKeys l)) = false → ∀ x ∈ idxs L.length, ∀ y ∈ idxs L.length, ∀ st, Rets P F.ties_sorter_before [.agg [.list false (hasRow (okKeys l)) (okKeys l).length, .list false (firstRow (okKeys l)) ((okKeys l).length + 1), Ky.lst L], .int x, .int y] st (.int (cmpZ (keyI (okKeys l) L x) (keyI (okKeys l) L y))) := fun hw x hx y hy st => by
    obtain ⟨i, hi, rfl⟩ := mem_idxs.1 hx
    obtain ⟨k, hk, rfl⟩ := mem_idxs.1 hy
    rw [← keyI_cmp (okKeys l) L i k hi hk]
    exact before_spec (okKeys l) (okKeys_keys l) (by omega) L (fun x hx => by have := List.any_eq_false.1 hw x hx; simpa using this) i k hi hk (by omega) st
  unfold sortA sortE plainK at *
  obtain ⟨v0, h0⟩ : ∃ v, v = (decide ((okKeys l).length = l.length) && decide (l.length ≤ 32)) := ⟨_, rfl⟩
  obtain ⟨v1, h1⟩ : ∃ v, v = L.any (wrongK (okKeys l)) := ⟨_, rfl⟩
  rw [← h0] at cp ⊢
  rw [← h1] at c1 cs ⊢
  obtain ⟨key, hkey⟩ : ∃ k, k = keyI (okKeys l) L := ⟨_, rfl⟩
  rw [← hkey] at cs ⊢
  unfold ordC at cp c1
  obtain ⟨F1, hF1⟩ : ∃ v, v = firstRow (okKeys l) := ⟨_, rfl⟩
  obtain ⟨H1, hH1⟩ : ∃ v, v = hasRow (okKeys l) := ⟨_, rfl⟩
  obtain ⟨n1, hn1⟩ : ∃ v, v = (okKeys l).length := ⟨_, rfl⟩
  rw [← hF1, ← hH1, ← hn1] at cp c1 cs
  clear h0 h1 hF1 hH1 hn1 hkey hle hy
  cases v0 with
  | false =>
    clear c1 cs
    refine H.ties_Sort.view hmix rfl rfl ?_
    repeat' (first 
     | (with_reducible refine Fresh.intro fun b hb => ?_) <;> (try simp -dsimp -implicitDefEqProofs [*] at hb)
     | (with_reducible refine Rets.xcall (cp _) ?_)
     | (simp -dsimp -implicitDefEqProofs [*]))
    exact .sees (.tuple2l (.nil0 _)) (RetView.drop (st' := st) (by repeat' (first | exact StLe.refl _ | (refine StLe_cons (by simp [*]; done) ?_) | (refine StLe_fresh (by simp [*]; done) ?_))) ⟨rfl, rfl⟩)
  | true =>
    cases v1 with
    | true =>
      clear cs
      refine H.ties_Sort.view hmix rfl rfl ?_
      repeat' (first 
       | (with_reducible refine Fresh.intro fun b hb => ?_) <;> (try simp -dsimp -implicitDefEqProofs [*] at hb)
       | (with_reducible refine Rets.xcall (cp _) ?_)
       | (with_reducible refine Rets.xcall (c1 _) ?_)
       | (simp -dsimp -implicitDefEqProofs [*]))
      exact .sees (.tuple2l (.nil0 _)) (RetView.drop (st' := st) (by repeat' (first | exact StLe.refl _ | (refine StLe_cons (by simp [*]; done) ?_) | (refine StLe_fresh (by simp [*]; done) ?_))) ⟨rfl, rfl⟩)
    | false =>
      have cs := cs rfl
      have kc : Hid _ := ⟨cs⟩
      clear cs
      obtain ⟨R, hR⟩ : ∃ R, R = srt key (idxs L.length) := ⟨_, rfl⟩
      have kR : Hid (R = srt key (idxs L.length)) := ⟨hR⟩
      have eE : (if (true && !false) = true then (0 : Int) else 210) = 0 := rfl
      have n2 : ¬ (4096 : Int) < L.length := by omega
      have e : (if (if (true && !false) = true then (0 : Int) else 210) = 0 then srt key (idxs L.length) else []) = R := by rw [hR]; rfl
      rw [e, eE]
      clear eE
      clear hR e
      refine H.ties_Sort.view hmix rfl rfl ?_
      repeat' (first 
       | (with_reducible refine Fresh.intro fun b hb => ?_) <;> (try simp -dsimp -implicitDefEqProofs [*] at hb)
       | (with_reducible refine Rets.xcall (cp _) ?_)
       | (with_reducible refine Rets.xcall (c1 _) ?_)
       | (simp -dsimp -implicitDefEqProofs [-xappend_list, *]))
      clear cp c1 n2
      obtain ⟨O, hO⟩ : ∃ O : PObj, O = .arr T.tiesorder [.list false H1 n1, .list false F1 (n1 + 1)] := ⟨_, rfl⟩
      rw [← hO]
      refine xloop_for (fun y : Nat × Option (Acc Int) => [(1, Ky.lst L), (4, accP y.2), (6, .ptr b 0), (26, .int L.length), (27, .int y.1)]) (fun y => accS T.int ((b, O) :: st) y.2) (fun y => y.1 ≤ L.length ∧ accOk intRow 1 ((b, O) :: st) y.2 ∧ Hid (accL y.2 = idxs y.1)) (fun y => L.length - y.1) (0, none) ⟨Nat.zero_le _, trivial, ⟨rfl⟩⟩ (by simp) (.refl _) ?_
      rintro ⟨n, o⟩ ⟨hn, ho, hl2⟩
      simp only at hn ho hl2
      by_cases hnl : n < L.length
      · have ww := wrap_succ (n := n) (by omega)
        have kO : Hid _ := ⟨hO⟩
        have la : (accL o).length ≤ 20 := by rw [hl2.out, idxs_len]; omega
        clear hO
        repeat' (first 
         | (with_reducible refine Lit.imm ?_)
         | (simp -dsimp -implicitDefEqProofs [-xappend_list, *]))
        refine xappend_accP intRow_len intRow_append o ho [(n : Int)] (by simp [intRow]) rfl (by omega) (by omega) fun o2 ho2 hl3 => ?_
        have hl4 : Hid (accL o2 = idxs (n + 1)) := ⟨by rw [hl3, hl2.out, idxs_succ]⟩
        clear hl3 hl2 ho la
        repeat' (simp -dsimp -implicitDefEqProofs [-xappend_list, *])
        exact Next.intro (n + 1, o2) ⟨by simp only; omega, ho2, hl4⟩ (by simp only; omega) (by simp) (by repeat' (first | exact StLe.refl _ | (refine StLe_cons (by simp [*]; done) ?_) | (refine StLe_fresh (by simp [*]; done) ?_)))
      · have e : n = L.length := by omega
        subst e
        have gO : ∃ cs : List PV, O = .arr T.tiesorder cs ∧ sub cs 0 2 = some cs ∧ cs = [.list false H1 n1, .list false F1 (n1 + 1)] := ⟨_, hO, rfl, rfl⟩
        cases o with
        | none =>
          have e0 : L.length = 0 := by
            have := congrArg List.length hl2.out
            rw [idxs_len] at this
            simpa using this.symm
          have eR : R = [] := by rw [kR.out, e0]; rfl
          subst eR
          subst hO
          clear kR kc hl2 gO
          repeat' (first 
           | (with_reducible refine Rets.xcall (SortI.sort_nil _ _) ?_)
           | (simp -dsimp -implicitDefEqProofs [-xappend_list, *]))
          exact .sees (.tuple2l (.nil0 _)) (RetView.drop (st' := st) (by repeat' (first | exact StLe.refl _ | (refine StLe_cons (by simp [*]; done) ?_) | (refine StLe_fresh (by simp [*]; done) ?_))) ⟨rfl, rfl⟩)
        | some a =>
          obtain ⟨ha, hab⟩ := ho
          have hla : a.l = idxs L.length := hl2.out
          have eR2 : a.R = intRow a.l ++ a.R.drop a.l.length := by
            have := ha.row
            rw [Nat.mul_one] at this
            conv => lhs; rw [← List.take_append_drop a.l.length a.R, this]
          have hd := SortI.sort_does (key := key) (g := F.ties_sorter_before) (p := .agg [.list false H1 n1, .list false F1 (n1 + 1), Ky.lst L]) (L := a.l) (by rw [hla]; exact kc.out) (C := a.R.drop a.l.length) (b := a.b) (cap := a.cap) (N := a.l.length) rfl (by rw [hla, idxs_len]; exact hL) ((b, O) :: st)
          unfold SortI.rowO at hd
          rw [hla, ← kR.out, ← hla, ← eR2] at hd
          have hRl : R.length = a.l.length := by rw [kR.out, srt_length, hla]
          have hab2 : ¬ b = a.b ∧ ¬ a.b = b ∧ snew st a.b := by simp only [snew] at hab; exact ⟨hab.1.1, hab.1.2, hab.2⟩
          subst hO
          have hcap := ha.cap
          have hle := ha.le
          have kk : Hid (a.Ok intRow 1 ∧ a.R = intRow a.l ++ a.R.drop a.l.length) := ⟨ha, eR2⟩
          have klen : a.l.length = L.length := by rw [hla, idxs_len]
          rw [klen] at hd hRl hle
          have eD : (intRow R ++ a.R.drop L.length).take (L.length * 1) = intRow R := by rw [Nat.mul_one, List.take_left' (by rw [intRow_length]; exact hRl)]
          obtain ⟨D, hD⟩ : ∃ D, D = intRow R ++ a.R.drop L.length := ⟨_, rfl⟩
          rw [← hD] at hd eD
          clear kc hl2 gO hla eR2 ha hab hD
          repeat' (first 
           | (with_reducible refine Does.xcall (hd) ?_)
           | (simp -dsimp -implicitDefEqProofs [-xappend_list, *]))
          refine .sees (.drop (st' := (a.b, .arr T.int D) :: st) (StLe_same (.fresh hb))) ?_
          refine .freeze (.tuple [intLst false R, .int 0]) hab2.2.2 (.tuple (.cons ?_ (.cons (.refl _) .nil))) (.same ⟨rfl, rfl⟩)
          have h := Frz.own (b := a.b) (o := .arr T.int D) T.int D 0 L.length a.cap 1 rfl hle hcap
          rw [List.drop_zero, eD] at h
          show Frz _ _ _ (.list false (intRow R) R.length)
          rw [hRl]
          exact h
end Go.Proofs.Ytliglilanpfjhaa
/- The chapter's examples. -/
namespace Go.Proofs.Ytliglilanpfjhaa
open Go.Pv
set_option maxRecDepth 100000
set_option maxHeartbeats 8000000
/-- Parts that fill a composite value one behind the other. -/
def segs (k : Nat) : Nat → List (List PV) → List (Nat × Nat × PV)
  | _, [] => []
  | off, X :: Xs => (off, k, .agg X) :: segs k (off + k) Xs
theorem fill_cat {k : Nat} : ∀ (Xs : List (List PV)) (A Z : List PV), (∀ X ∈ Xs, X.length = k) → Z.length = Xs.length * k → fillPV (A ++ Z) (segs k A.length Xs) = some (A ++ Xs.flatten)
  | [], A, Z, _, hZ => by
    have : Z = [] := List.length_eq_zero_iff.1 (by simpa using hZ)
    subst this
    simp [segs]
  | X :: Xs, A, Z, hX, hZ => by
    have hk := hX X (by simp)
    have hZ2 : Z.length = Xs.length * k + k := by rw [hZ, List.length_cons, Nat.succ_mul]
    obtain ⟨Z1, Z2, rfl, hZ1⟩ : ∃ Z1 Z2, Z = Z1 ++ Z2 ∧ Z1.length = k := ⟨Z.take k, Z.drop k, (List.take_append_drop ..).symm, by rw [List.length_take]; omega⟩
    rw [List.length_append] at hZ2
    have e1 : setCells (A ++ (Z1 ++ Z2)) A.length X = (A ++ X) ++ Z2 := by
      have := setCells_append_right X A (Z1 ++ Z2) 0
      rw [Nat.add_zero] at this
      rw [this, setCells_append_left _ _ _ _ (by omega), setCells_all _ _ (by omega), List.append_assoc]
    have ih := fill_cat Xs (A ++ X) Z2 (fun Y hY => hX Y (by simp [hY])) (by omega)
    simp only [segs]
    rw [fillPV_cons]
    have hc : (PV.agg X).cells = some X := rfl
    have hl : X.length = k ∧ A.length + k ≤ (A ++ (Z1 ++ Z2)).length := ⟨hk, by simp; omega⟩
    rw [hc]
    show (if X.length = k ∧ A.length + k ≤ (A ++ (Z1 ++ Z2)).length then fillPV (setCells (A ++ (Z1 ++ Z2)) A.length X) (segs k (A.length + k) Xs) else none) = _
    rw [if_pos hl, e1]
    rw [List.length_append, hk] at ih
    rw [ih]
    simp
theorem fill_cat0 {k : Nat} (Xs : List (List PV)) (Z : List PV) (hX : ∀ X ∈ Xs, X.length = k) (hZ : Z.length = Xs.length * k) : fillPV Z (segs k 0 Xs) = some Xs.flatten := fill_cat Xs [] Z hX hZ
def rwOf (s : Int) : Rw := ⟨decide (s < 0), digs s.natAbs, decide ((1 : Int) < 0), digs (1 : Int).natAbs⟩
theorem rwOf_enc (s : Int) : (rwOf s).enc = zC false s ++ zC false 1 := rfl
/-- An entry of the examples. -/
def kd (e s h lo : Int) : Ky := ⟨e, rwOf s, [], [], h, 0, lo⟩
theorem keyed_spec (e s h lo : Int) (h1 : -9223372036854775808 ≤ s) (h2 : s ≤ 9223372036854775807) (st : Store) : Rets P F.podiumlaw21_keyed [.int e, .int s, .int h, .int lo] st (kd e s h lo).pv := by
  have c := rInt_spec s h1 h2
  rw [← rwOf_enc] at c
  have eK : (kd e s h lo).pv = .agg [.int e, .bool (rwOf s).s1, .list false (intRow (rwOf s).L1) (rwOf s).L1.length, .bool (rwOf s).s2, .list false (intRow (rwOf s).L2) (rwOf s).L2.length, .list false [] 0, .list false [] 0, .int h, .int 0, .int lo] := rfl
  rw [eK]
  unfold Rw.enc at c
  obtain ⟨r, hr⟩ : ∃ r, r = rwOf s := ⟨_, rfl⟩
  rw [← hr] at c ⊢
  clear hr eK
  refine H.podiumlaw21_keyed.view hmix rfl rfl ?_
  repeat' (first 
   | (with_reducible refine Fresh.intro fun b hb => ?_) <;> (try simp -dsimp -implicitDefEqProofs [*] at hb)
   | (with_reducible refine Rets.xcall (c _) ?_)
   | (simp -dsimp -implicitDefEqProofs [*]))
  refine .le (.aggs ?_) (RetView.drop (st' := st) (by repeat' (first | exact StLe.refl _ | (refine StLe_cons (by simp [*]; done) ?_) | (refine StLe_fresh (by simp [*]; done) ?_))) ⟨rfl, rfl⟩)
  exact ⟨.refl _, .refl _, .refl _, .refl _, .refl _, .nil1, .nil1, .refl _, .refl _, .refl _, trivial⟩
theorem sameInts_spec (t u : Bool) (A B : List Int) (hA : A.length ≤ 9223372036854775807) (st : Store) : Rets P F.podiumref13_SameInts [intLst t A, intLst u B] st (.bool (decide (A = B))) := by
  refine H.podiumref13_SameInts.view hmix rfl rfl ?_
  by_cases hl : A.length = B.length
  case neg =>
    have e : decide (A = B) = false := decide_eq_false fun h => hl (by rw [h])
    have hl2 : ¬ (A.length : Int) = B.length := by omega
    rw [e]
    clear e
    repeat' (simp -dsimp -implicitDefEqProofs [*])
    exact .same ⟨rfl, rfl⟩
  have hB : (intRow B).length = A.length := by simp [hl]
  have kE : Hid ((∀ j (h1 : j < A.length) (h2 : j < B.length), A[j] = B[j]) → decide (A = B) = true) := ⟨fun h => decide_eq_true (List.ext_getElem hl h)⟩
  have kN : Hid (∀ j (h1 : j < A.length) (h2 : j < B.length), ¬ A[j] = B[j] → decide (A = B) = false) := ⟨fun j h1 h2 h => decide_eq_false fun e => h (by subst e; rfl)⟩
  obtain ⟨w, hw⟩ : ∃ w, w = decide (A = B) := ⟨_, rfl⟩
  rw [← hw] at kE kN ⊢
  clear hw
  repeat' (simp -dsimp -implicitDefEqProofs [*])
  have hl2 : (A.length : Int) = B.length := by omega
  refine xloop_for (fun n : Nat => [(0, intLst t A), (1, intLst u B), (5, .int n)]) (fun _ => st) (fun n => n ≤ A.length ∧ Hid (∀ j (h1 : j < A.length) (h2 : j < B.length), j < n → A[j] = B[j])) (fun n => A.length - n) 0 ⟨Nat.zero_le _, ⟨fun j _ _ h => absurd h (by omega)⟩⟩ (by simp) (.refl _) ?_
  rintro n ⟨hn, hI⟩
  clear hB
  by_cases hnl : n < A.length
  · have ww := wrap_succ (n := n) (by omega)
    have hnB : n < B.length := by omega
    have g1 := intRow_get A n hnl
    have g2 := intRow_get B n hnB
    have kNn := kN.out n hnl hnB
    have kS : Hid (A[n] = B[n] → ∀ j (h1 : j < A.length) (h2 : j < B.length), j < n + 1 → A[j] = B[j]) := ⟨fun h j h1 h2 h3 => if e : j = n then by subst e; exact h else hI.out j h1 h2 (by omega)⟩
    clear hI kE kN hl hl2
    by_cases h : A[n] = B[n]
    · have e : Hid _ := ⟨kS.out h⟩
      clear kNn kS
      repeat' (simp -dsimp -implicitDefEqProofs [*])
      exact Next.intro (n + 1) ⟨by omega, e⟩ (by omega) (by simp) (by repeat' (first | exact StLe.refl _ | (refine StLe_cons (by simp [*]; done) ?_) | (refine StLe_fresh (by simp [*]; done) ?_)))
    · have e := kNn h
      subst e
      clear kNn kS
      repeat' (simp -dsimp -implicitDefEqProofs [*])
      exact .same ⟨rfl, rfl⟩
  · have e : n = A.length := by omega
    subst e
    have e := kE.out fun j h1 h2 => hI.out j h1 h2 h1
    subst e
    clear hI kE kN hl hl2
    repeat' (simp -dsimp -implicitDefEqProofs [*])
    exact .same ⟨rfl, rfl⟩
end Go.Proofs.Ytliglilanpfjhaa
