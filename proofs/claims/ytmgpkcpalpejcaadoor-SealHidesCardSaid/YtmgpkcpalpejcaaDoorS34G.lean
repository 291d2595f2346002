/- Tagged digests by the program. -/
import Derived.Test.YtmgpkcpalpejcaaDoorS34F
namespace Go.Proofs.YtmgpkcpalpejcaaDoor
open Go.Pv Go.Pv.Sha
set_option maxRecDepth 100000
set_option maxHeartbeats 4000000
def GrowN (st : Store) (e : PEnd) (s : Store) : Prop := ∃ o : Option (Acc (BitVec 8)), accOk byteRow 1 st o ∧ accL o = [] ∧ e = .ret (accP o) ∧ s = accS T.uint8 st o
def anyRow (l : List Unit) : List PV := List.replicate l.length (.val (.int .u8 0))
theorem xappend_accP0 {α : Type} {row : List α → List PV} {k : Nat} (hrl : ∀ l, (row l).length = l.length * k) (hra : ∀ l m, row (l ++ m) = row l ++ row m) {T : TypeId} {bytes : Nat} {st : Store} {K : PV → Store → Prop}
    (o : Option (Acc α)) (ho : accOk row k st o) (xs : List α) {new : List PV} {m : Nat} (hnew : row xs = new) (hm : xs.length = m) (hsz : ((accL o).length + m) * bytes ≤ 140737488355328)
    (h : ∀ o' : Option (Acc α), accOk row k st o' → accL o' = accL o ++ xs → K (accP o') (accS T st o')) : xappend T bytes k (accP o) new m (accS T st o) K := by
  by_cases h0 : m = 0
  · have hx : xs = [] := List.length_eq_zero_iff.1 (hm.trans h0)
    subst hx
    cases o with
    | none =>
      subst h0
      simp only [accP_none, accS_none]
      rw [xappend_nil]
      exact ⟨fun _ => h none trivial rfl, fun h => absurd rfl h⟩
    | some a =>
      obtain ⟨ha, hb⟩ := ho
      refine xappend_acc hrl hra ha (by simp) [] hnew hm hsz fun a' ha' hl' hb' => ?_
      have e : sdel a.b (accS T st (some a)) = st := by simp [sdel_of_new hb]
      rw [e] at hb' ⊢
      exact h (some a') ⟨ha', hb'⟩ hl'
  · exact xappend_accP hrl hra o ho xs hnew hm (by omega) hsz h
theorem grow_spec (n : Nat) (hn : n ≤ 100000000) (st : Store) : PCalls P F.slices_Grow__Lbyte_byte [.nil, .int (n : Int)] st (GrowN st) := by
  refine H.slices_Grow__Lbyte_byte.view hmix rfl rfl ?_
  have hw : IntKind.i64.wrap (n : Int) = n := wrap_nat (by omega)
  have hw0 : IntKind.i64.wrap 0 = 0 := rfl
  by_cases h0 : n = 0
  · subst h0
    repeat' (simp -dsimp -implicitDefEqProofs [*])
    exact .same ⟨none, trivial, rfl, rfl, rfl⟩
  · have h0' : (0 : Int) < n := by omega
    repeat' (first 
     | (with_reducible refine And.intro (fun h => ?_) (fun h => ?_)) <;> (try (exfalso; omega))
     | ((with_reducible refine and_keep ?_ fun hk => ?_); omega)
     | (simp -dsimp -implicitDefEqProofs [-xappend_list, *]))
    refine xappend_accP (row := anyRow) (k := 1) (T := T.uint8) (st := st) (by simp [anyRow]) (by intro l m; simp [anyRow]) none trivial (List.replicate n ()) (by simp [anyRow, List.flatten_replicate_singleton]) (by simp) (by omega) (by simp; omega) fun o' h1 h2 => ?_
    cases o' with
    | none => exact absurd (congrArg List.length h2) (by simpa using fun h => h0 h.symm)
    | some a =>
      simp only [accOk_some] at h1
      simp only [accL_some, accL_none, List.nil_append] at h2
      obtain ⟨⟨a1, a2, a3, a4⟩, a5⟩ := h1
      have hl : a.l.length = n := by rw [h2]; simp
      rw [hl] at a1 a4
      simp only [accP_some, accS_some, hl]
      clear h2 hl
      obtain ⟨L, b, cap, R⟩ := a
      simp only at a1 a2 a3 a4 a5
      repeat' (simp -dsimp -implicitDefEqProofs [*])
      exact .same ⟨some ⟨[], b, cap, R⟩, ⟨⟨by simp, a2, a3, by simp⟩, a5⟩, rfl, rfl, rfl⟩
def tot2 (x l : List (BitVec 8)) : Nat → Nat
  | 0 => 0
  | 1 => x.length
  | _ => x.length + l.length
def cat2 (x l : List (BitVec 8)) : Nat → List (BitVec 8)
  | 0 => []
  | 1 => x
  | _ => x ++ l
theorem concat_spec (ta tb tc : Bool) (x l : List (BitVec 8)) (hx : x.length ≤ 1000000) (hl : l.length ≤ 1000000) (st : Store) : Rets P F.slices_Concat__Lbyte_byte [.list ta [byteLst tb x, byteLst tc l] 2] st (byteLst false (x ++ l)) := by
  refine H.slices_Concat__Lbyte_byte.view hmix rfl rfl ?_
  repeat' (simp -dsimp -implicitDefEqProofs [*])
  refine xloop_for (fun i : Nat => [(0, .list ta [byteLst tb x, byteLst tc l] 2), (3, .int (tot2 x l i : Nat)), (9, .list ta [byteLst tb x, byteLst tc l] 2), (10, .int 2), (11, .int (i : Nat))]) (fun _ => st) (fun i => i ≤ 2) (fun i => 2 - i) 0 (by omega) (by simp [tot2]) (.refl _) ?_
  intro i hi
  have hw1 : IntKind.i64.wrap (x.length : Int) = x.length := wrap_nat (by omega)
  have hw2 : IntKind.i64.wrap ((x.length : Int) + l.length) = (x.length : Int) + l.length := wrap_in (by omega) (by omega)
  have hp1 : ¬ (x.length : Int) < 0 := by omega
  have hp2 : ¬ (x.length : Int) + l.length < 0 := by omega
  obtain rfl | rfl | rfl : i = 0 ∨ i = 1 ∨ i = 2 := by omega
  · simp only [tot2]
    repeat' (simp -dsimp -implicitDefEqProofs [*])
    exact Next.intro 1 (by omega) (by omega) (by simp [tot2]; rfl) (by repeat' (first | exact StLe.refl _ | (refine StLe_cons (by simp [*]; done) ?_) | (refine StLe_fresh (by simp [*]; done) ?_)))
  · simp only [tot2]
    repeat' (simp -dsimp -implicitDefEqProofs [*])
    exact Next.intro 2 (by omega) (by omega) (by simp [tot2]; rfl) (by repeat' (first | exact StLe.refl _ | (refine StLe_cons (by simp [*]; done) ?_) | (refine StLe_fresh (by simp [*]; done) ?_)))
  · simp only [tot2]
    have hg := fun st => grow_spec (x.length + l.length) (by omega) st
    simp only [Int.natCast_add] at hg ⊢
    repeat' (simp -dsimp -implicitDefEqProofs [*])
    refine xcall_post (hg _) ?_
    rintro e s ⟨o, ho, hol, rfl, rfl⟩
    rw [xend_ret]
    clear hg
    repeat' (simp -dsimp -implicitDefEqProofs [-xappend_list, *])
    refine xloop_for (fun y : Nat × Option (Acc (BitVec 8)) => [(6, accP y.2), (25, .list ta [byteLst tb x, byteLst tc l] 2), (26, .int 2), (27, .int (y.1 : Nat))]) (fun y => accS T.uint8 st y.2) (fun y => y.1 ≤ 2 ∧ accOk byteRow 1 st y.2 ∧ accL y.2 = cat2 x l y.1) (fun y => 2 - y.1) (0, o) ⟨by omega, ho, hol⟩ (by simp) (.refl _) ?_
    clear hol ho
    clear o
    rintro ⟨i, o⟩ ⟨hi, ho, hol⟩
    simp only at hi ho hol
    obtain rfl | rfl | rfl : i = 0 ∨ i = 1 ∨ i = 2 := by omega
    · simp only [cat2] at hol
      have kl : Hid (accL o = []) := ⟨hol⟩
      clear hol
      repeat' (simp -dsimp -implicitDefEqProofs [-xappend_list, *])
      refine xappend_accP0 byteRow_len byteRow_append o ho x rfl rfl (by rw [kl.out]; simp; omega) fun o' ho' hl' => ?_
      have kl' : Hid (accL o' = x) := ⟨by rw [hl', kl.out]; rfl⟩
      clear hl'
      repeat' (simp -dsimp -implicitDefEqProofs [-xappend_list, *])
      exact Next.intro (1, o') ⟨by simp only; omega, ho', kl'.out⟩ (by simp only; omega) (by simp; rfl) (by repeat' (first | exact StLe.refl _ | (refine StLe_cons (by simp [*]; done) ?_) | (refine StLe_fresh (by simp [*]; done) ?_)))
    · simp only [cat2] at hol
      have kl : Hid (accL o = x) := ⟨hol⟩
      clear hol
      repeat' (simp -dsimp -implicitDefEqProofs [-xappend_list, *])
      refine xappend_accP0 byteRow_len byteRow_append o ho l rfl rfl (by rw [kl.out]; omega) fun o' ho' hl' => ?_
      have kl' : Hid (accL o' = x ++ l) := ⟨by rw [hl', kl.out]⟩
      clear hl'
      repeat' (simp -dsimp -implicitDefEqProofs [-xappend_list, *])
      exact Next.intro (2, o') ⟨by simp only; omega, ho', kl'.out⟩ (by simp only; omega) (by simp; rfl) (by repeat' (first | exact StLe.refl _ | (refine StLe_cons (by simp [*]; done) ?_) | (refine StLe_fresh (by simp [*]; done) ?_)))
    · simp only [cat2] at hol
      have kl : Hid (accL o = x ++ l) := ⟨hol⟩
      clear hol
      repeat' (simp -dsimp -implicitDefEqProofs [-xappend_list, *])
      exact RetView.accP1 rfl ho (.same ⟨by rw [kl.out], rfl⟩)
theorem tagged_spec (tag : ByteArray) (htag : tag.size ≤ 1000) (t : Bool) (l : List (BitVec 8)) (hl : l.length ≤ 900000) (st : Store) (h0 : sget st 0 = some (.arr T.t8uint32 Sha.start.row)) (h1 : sget st 1 = some numsO) : Rets P F.digest_Tagged [.str tag, byteLst t l] st (.agg (byteRow (tagged (strB tag) l))) := by
  refine H.digest_Tagged.pure hmix rfl rfl ?_
  have hs1 := fun st h0 h1 => sum_spec false (strB tag) (by rw [strB_len]; omega) st h0 h1
  have e1 : byteLst false (strB tag) = .list false (strCells tag) tag.size := by
    show PV.list false (byteRow _) _ = _
    rw [strCells_eq, strB_len]
  rw [e1] at hs1
  have hsz : tag.size ≤ 140737488355328 := by omega
  have hs32 : (byteRow (sum (strB tag))).length = 32 := rfl
  have hsub := sub_all hs32
  have hall : setCells (byteRow z32) 0 (byteRow (sum (strB tag))) = byteRow (sum (strB tag)) := setCells_all _ _ rfl
  have hty : tagged (strB tag) l = sum (sum (strB tag) ++ l) := rfl
  have hs34 : (sum (strB tag)).length = 32 := rfl
  have hall2 : ∀ L : List PV, L.length = 32 → setCells L 0 (byteRow (tagged (strB tag) l)) = byteRow (tagged (strB tag) l) := fun L h => setCells_all _ _ h.symm
  have hs33 : (byteRow (tagged (strB tag) l)).length = 32 := rfl
  have hsub2 := sub_all hs33
  have h2 := fun st h0 h1 => sum_spec false (sum (strB tag) ++ l) (by rw [List.length_append, sum_len]; omega) st h0 h1
  rw [hty] at hall2 hs33 hsub2 ⊢
  clear hty
  have kh2 : Hid (∀ st h0 h1, Rets P F.digest_Sum [byteLst false (sum (strB tag) ++ l)] st (.agg (byteRow (sum (sum (strB tag) ++ l))))) := ⟨h2⟩
  clear h2
  generalize sum (sum (strB tag) ++ l) = D at *
  generalize sum (strB tag) = E at *
  repeat' (first 
   | (with_reducible refine Fresh.intro fun b hb => ?_) <;> (try simp -dsimp -implicitDefEqProofs [*] at hb)
   | (simp -dsimp -implicitDefEqProofs [*]))
  revert b
  intro p hp
  have hp0 := (snew_ne hp h0).1
  have hp1 := (snew_ne hp h1).1
  have hc1 := fun R => hs1 ((p, .arr T.apiDigest R) :: st) (by simp [hp0, h0]) (by simp [hp1, h1])
  clear hs1
  have hc2 : Hid (∀ R, Rets P F.digest_Sum [byteLst false (E ++ l)] ((p, .arr T.apiDigest R) :: st) (.agg (byteRow D))) := ⟨fun R => kh2.out ((p, .arr T.apiDigest R) :: st) (by simp [hp0, h0]) (by simp [hp1, h1])⟩
  clear kh2
  have ht32 : Hid (byteRow E = List.take 32 (byteRow E)) := ⟨(List.take_of_length_le (by omega)).symm⟩
  repeat' (first 
   | (with_reducible refine Fresh.intro fun b hb => ?_) <;> (try simp -dsimp -implicitDefEqProofs [*] at hb)
   | (with_reducible refine Rets.xcall (hc1 _) ?_)
   | (with_reducible refine Lit.imm ?_)
   | (simp -dsimp -implicitDefEqProofs [*]))
  clear hc1
  have hcc := fun st => concat_spec true false t E l (by omega) (by omega) st
  have e3 : byteLst false E = .list false (((byteRow E).drop 0).take (32 * 1)) 32 := by
    show PV.list false (byteRow _) _ = _
    rw [hs34]; exact congrArg (PV.list false · 32) ht32.out
  rw [e3] at hcc
  refine xcall_frz ‹_› (.refl _) (.cons (.list _ _ (.cons (.own _ _ _ _ _ 1 rfl (by omega) (by omega)) (.cons (.refl _) .nil))) .nil) (hcc _) ?_
  clear hcc e3
  rw [xend_ret]
  have hc3 := fun R => hc2.out R
  repeat' (first 
   | (with_reducible refine Rets.xcall (hc3 _) ?_)
   | (simp -dsimp -implicitDefEqProofs [*]))
end Go.Proofs.YtmgpkcpalpejcaaDoor
