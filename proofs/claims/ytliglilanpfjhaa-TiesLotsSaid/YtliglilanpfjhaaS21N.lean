/- Package ratio: checks, products. -/
import Derived.Test.YtliglilanpfjhaaS21L
namespace Go.Proofs.Ytliglilanpfjhaa
open Go.Pv
set_option maxRecDepth 100000
set_option maxHeartbeats 4000000
theorem rcaught_ret (b : Nat) (st : Store) : Defs P F.ratio_caught [.ptr b 0] .returning st .returning st := by
  refine H.ratio_caught.defs hmix rfl rfl ?_
  repeat' (simp -dsimp -implicitDefEqProofs [*])
theorem rcaught_pan (b : Nat) (n m : Int) (st : Store) (hb : sget st b = some (.arr T.apiErrno [.int m])) : Defs P F.ratio_caught [.ptr b 0] (.panicking (.iface T.apiErrno (.int n))) st .returning (sset st b (.arr T.apiErrno [.int n])) := by
  refine H.ratio_caught.defs hmix rfl rfl ?_
  repeat' (simp -dsimp -implicitDefEqProofs [*])
theorem rneed_ok (e : Int) (st : Store) : Rets P F.ratio_need [.bool true, .int e] st (.tuple []) := by
  refine H.ratio_need.pure hmix rfl rfl ?_
  repeat' (simp -dsimp -implicitDefEqProofs [*])
theorem rneed_no (e : Int) (st : Store) : Panics P F.ratio_need [.bool false, .int e] st (.iface T.apiErrno (.int e)) := by
  refine H.ratio_need.panics hmix rfl rfl ?_
  repeat' (simp -dsimp -implicitDefEqProofs [*])
theorem did_big (s t : Bool) (L : List Int) (st : Store) : Rets P F.ratio_did__apiBig [.agg [.bool s, intLst t L], .int 0] st (.agg [.bool s, intLst t L]) := by
  refine H.ratio_did__apiBig.view hmix rfl rfl ?_
  repeat' (first 
   | (with_reducible refine Fresh.intro fun b hb => ?_) <;> (try simp -dsimp -implicitDefEqProofs [*] at hb)
   | (with_reducible refine Rets.xcall (rneed_ok _ _) ?_)
   | (simp -dsimp -implicitDefEqProofs [*]))
  exact RetView.drop (st' := st) (by repeat' (first | exact StLe.refl _ | (refine StLe_cons (by simp [*]; done) ?_) | (refine StLe_fresh (by simp [*]; done) ?_))) ⟨rfl, rfl⟩
theorem did_int (n : Int) (st : Store) : Rets P F.ratio_did__int [.int n, .int 0] st (.int n) := by
  refine H.ratio_did__int.pure hmix rfl rfl ?_
  repeat' (first 
   | (with_reducible refine Rets.xcall (rneed_ok _ _) ?_)
   | (simp -dsimp -implicitDefEqProofs [*]))
theorem positive_spec (s t : Bool) (L : List Int) (st : Store) : Rets P F.ratio_positive [.agg [.bool s, intLst t L]] st (.bool (!s && !L.isEmpty)) := by
  refine H.ratio_positive.pure hmix rfl rfl ?_
  cases s with
  | true =>
    repeat' (first 
     | (with_reducible refine Fresh.intro fun b hb => ?_) <;> (try simp -dsimp -implicitDefEqProofs [*] at hb)
     | (simp -dsimp -implicitDefEqProofs [*]))
  | false =>
    cases L with
    | nil =>
      repeat' (first 
       | (with_reducible refine Fresh.intro fun b hb => ?_) <;> (try simp -dsimp -implicitDefEqProofs [*] at hb)
       | (simp -dsimp -implicitDefEqProofs [*]))
    | cons x L =>
      have h1 : (0 : Int) < (L.length : Int) + 1 := by omega
      repeat' (first 
       | (with_reducible refine Fresh.intro fun b hb => ?_) <;> (try simp -dsimp -implicitDefEqProofs [*] at hb)
       | (simp -dsimp -implicitDefEqProofs [*]))
theorem natGcd_raw (s1 s2 t u : Bool) (m n : Nat) (h1 : m = 0 → s1 = false) (h2 : n = 0 → s2 = false) (hm : dl m ≤ 2048) (hn : dl n ≤ 2048) (st : Store) :
    Rets P F.nat_Gcd [.agg [.bool s1, intLst t (digs m)], .agg [.bool s2, intLst u (digs n)]] st (.tuple [.agg [.bool false, intLst false (digs (Nat.gcd m n))], .int 0]) := by
  have key : ∀ (s t : Bool) (m : Nat), (m = 0 → s = false) → zC t (if s then -(m : Int) else m) = [.bool s, intLst t (digs m)] ∧ (if s then -(m : Int) else m : Int).natAbs = m := by
    intro s t m h
    have e : (if s then -(m : Int) else m : Int).natAbs = m := by split <;> omega
    refine ⟨?_, e⟩
    unfold zC
    rw [e]
    cases s with
    | false => simp
    | true =>
      have : m ≠ 0 := fun e => by have := h e; cases this
      simp; omega
  obtain ⟨e1, e2⟩ := key s1 t m h1
  obtain ⟨e3, e4⟩ := key s2 u n h2
  have := natGcd_spec t u (if s1 then -(m : Int) else m) (if s2 then -(n : Int) else n) (by rw [e2]; exact hm) (by rw [e4]; exact hn) st
  rw [e1, e3, e2, e4] at this
  have e5 : zC false ((Nat.gcd m n : Nat) : Int) = [.bool false, intLst false (digs (Nat.gcd m n))] := by
    have h : ¬ ((Nat.gcd m n : Nat) : Int) < 0 := by omega
    unfold zC
    rw [decide_eq_false h]; rfl
  rwa [e5] at this
theorem ratCheck_spec (s1 t1 s2 t2 : Bool) (L1 L2 : List Int) (hl1 : L1.length ≤ 100000) (hl2 : L2.length ≤ 100000) (st : Store) : Rets P F.ratio_Check [.agg [.bool s1, intLst t1 L1, .bool s2, intLst t2 L2]] st (.int (errB (ratOk s1 L1 s2 L2) 100)) := by
  have c1 := natCheck_spec s1 t1 L1 hl1
  have c2 := natCheck_spec s2 t2 L2 hl2
  have c3 := positive_spec s2 t2 L2
  unfold bigP errB at c1 c2
  have gF : ratOk s1 L1 s2 L2 = false → (Rets P F.ratio_Check [.agg [.bool s1, intLst t1 L1, .bool s2, intLst t2 L2]] st (.int 100)) → Rets P F.ratio_Check [.agg [.bool s1, intLst t1 L1, .bool s2, intLst t2 L2]] st (.int (errB (ratOk s1 L1 s2 L2) 100)) := fun h k => by rw [h]; exact k
  have gT : ratOk s1 L1 s2 L2 = true → (Rets P F.ratio_Check [.agg [.bool s1, intLst t1 L1, .bool s2, intLst t2 L2]] st (.int 0)) → Rets P F.ratio_Check [.agg [.bool s1, intLst t1 L1, .bool s2, intLst t2 L2]] st (.int (errB (ratOk s1 L1 s2 L2) 100)) := fun h k => by rw [h]; exact k
  cases h1 : bigOk s1 L1 with
  | false =>
    refine gF (by simp [ratOk, h1]) ?_
    rw [h1] at c1
    simp only [Bool.false_eq_true, if_false] at c1
    clear c2 c3 h1 gF gT
    refine H.ratio_Check.pure hmix rfl rfl ?_
    repeat' (first 
     | (with_reducible refine Fresh.intro fun b hb => ?_) <;> (try simp -dsimp -implicitDefEqProofs [*] at hb)
     | (with_reducible refine Rets.xcall (c1 _) ?_)
     | (simp -dsimp -implicitDefEqProofs [*]))
  | true =>
    rw [h1] at c1
    simp only [if_true] at c1
    cases h2 : bigOk s2 L2 with
    | false =>
      refine gF (by simp [ratOk, h2]) ?_
      rw [h2] at c2
      simp only [Bool.false_eq_true, if_false] at c2
      clear c3 h1 h2 gF gT
      refine H.ratio_Check.pure hmix rfl rfl ?_
      repeat' (first 
       | (with_reducible refine Fresh.intro fun b hb => ?_) <;> (try simp -dsimp -implicitDefEqProofs [*] at hb)
       | (with_reducible refine Rets.xcall (c1 _) ?_)
       | (with_reducible refine Rets.xcall (c2 _) ?_)
       | (simp -dsimp -implicitDefEqProofs [*]))
    | true =>
      rw [h2] at c2
      simp only [if_true] at c2
      obtain ⟨m, rfl, hm, hm0⟩ := bigOk_iff.1 h1
      obtain ⟨n, rfl, hn, hn0⟩ := bigOk_iff.1 h2
      have hg := natGcd_raw s1 s2 t1 t2 m n hm0 hn0 hm hn
      have eO : ∀ g, g = Nat.gcd m n → ratOk s1 (digs m) s2 (digs n) = ((!s2 && !(digs n).isEmpty) && decide (g = 1)) := by
        intro g hg
        unfold ratOk
        rw [h1, h2, dv_digs_nat, dv_digs_nat]
        have : decide (Nat.gcd m n = 1) = decide (g = 1) := decide_eq_decide.2 (by rw [hg])
        rw [this]
        simp
      obtain ⟨pb, hpb⟩ : ∃ pb, pb = (!s2 && !(digs n).isEmpty) := ⟨_, rfl⟩
      obtain ⟨g, hgg⟩ : ∃ g, g = Nat.gcd m n := ⟨_, rfl⟩
      have eO := eO g hgg
      rw [← hpb] at eO
      rw [← hpb] at c3
      rw [← hgg] at hg
      clear hpb hgg h1 h2 hm0 hn0 hm hn
      cases pb with
      | false =>
        refine gF (by rw [eO]; rfl) ?_
        clear hg eO gF gT
        refine H.ratio_Check.pure hmix rfl rfl ?_
        repeat' (first 
         | (with_reducible refine Fresh.intro fun b hb => ?_) <;> (try simp -dsimp -implicitDefEqProofs [*] at hb)
         | (with_reducible refine Rets.xcall (c1 _) ?_)
         | (with_reducible refine Rets.xcall (c2 _) ?_)
         | (with_reducible refine Rets.xcall (c3 _) ?_)
         | (simp -dsimp -implicitDefEqProofs [*]))
      | true =>
        by_cases h4 : g = 1
        · have l1 : (digs g).length = 1 := by rw [h4, digs_one (by decide) (by decide)]; rfl
          have l2 : (digs g)[0]'(by omega) = 1 := by simp [h4, digs_one]
          have l3 : 0 < (digs g).length := by omega
          refine gT (by rw [eO, h4]; rfl) ?_
          clear h4 eO gF gT
          refine H.ratio_Check.pure hmix rfl rfl ?_
          repeat' (first 
           | (with_reducible refine Fresh.intro fun b hb => ?_) <;> (try simp -dsimp -implicitDefEqProofs [*] at hb)
           | (with_reducible refine Rets.xcall (c1 _) ?_)
           | (with_reducible refine Rets.xcall (c2 _) ?_)
           | (with_reducible refine Rets.xcall (c3 _) ?_)
           | (with_reducible refine Rets.xcall (hg _) ?_)
           | (simp -dsimp -implicitDefEqProofs [*]))
        · refine gF (by rw [eO, decide_eq_false h4]; rfl) ?_
          by_cases l1 : (digs g).length = 1
          · have l3 : 0 < (digs g).length := by omega
            have g0 : g ≠ 0 := by rintro rfl; rw [digs_zero] at l1; simp at l1
            have gl : g < 1073741824 := by have := (dl_le (n := g) (k := 1)).1 (by show (digs g).length ≤ 1; omega); simpa using this
            have l2 : ¬ (digs g)[0] = 1 := by
              have : digs g = [(g : Int)] := digs_one g0 gl
              simp only [this, List.getElem_cons_zero]
              omega
            clear h4 eO gF gT
            refine H.ratio_Check.pure hmix rfl rfl ?_
            repeat' (first 
             | (with_reducible refine Fresh.intro fun b hb => ?_) <;> (try simp -dsimp -implicitDefEqProofs [*] at hb)
             | (with_reducible refine Rets.xcall (c1 _) ?_)
             | (with_reducible refine Rets.xcall (c2 _) ?_)
             | (with_reducible refine Rets.xcall (c3 _) ?_)
             | (with_reducible refine Rets.xcall (hg _) ?_)
             | (simp -dsimp -implicitDefEqProofs [*]))
          · have l2 : ¬ ((digs g).length : Int) = 1 := by omega
            clear h4 eO gF gT
            refine H.ratio_Check.pure hmix rfl rfl ?_
            repeat' (first 
             | (with_reducible refine Fresh.intro fun b hb => ?_) <;> (try simp -dsimp -implicitDefEqProofs [*] at hb)
             | (with_reducible refine Rets.xcall (c1 _) ?_)
             | (with_reducible refine Rets.xcall (c2 _) ?_)
             | (with_reducible refine Rets.xcall (c3 _) ?_)
             | (with_reducible refine Rets.xcall (hg _) ?_)
             | (simp -dsimp -implicitDefEqProofs [*]))
end Go.Proofs.Ytliglilanpfjhaa
/- Package ratio: comparing. -/
namespace Go.Proofs.Ytliglilanpfjhaa
open Go.Pv
set_option maxRecDepth 100000
set_option maxHeartbeats 4000000
/-- A rational number: cells. -/
theorem rC_cells (t1 t2 : Bool) (q : Rat) : rC t1 t2 q = [.bool (decide (q.num < 0)), intLst t1 (digs q.num.natAbs), .bool false, intLst t2 (digs q.den)] := by
  have h : ¬ (q.den : Int) < 0 := by omega
  unfold rC zC
  rw [decide_eq_false h]; rfl
structure Small (q : Rat) : Prop where
  n : dl q.num.natAbs ≤ 2048
  d : dl q.den ≤ 2048
theorem ratOk_of {q : Rat} (h : Small q) : ratOk (decide (q.num < 0)) (digs q.num.natAbs) false (digs q.den) = true := IsRat.ok (q := q) ⟨rfl, rfl, rfl, rfl, h.n, h.d⟩
theorem ratCheck_ok (t1 t2 : Bool) (q : Rat) (h : Small q) (st : Store) : Rets P F.ratio_Check [.agg (rC t1 t2 q)] st (.int 0) := by
  have := ratCheck_spec (decide (q.num < 0)) t1 false t2 (digs q.num.natAbs) (digs q.den) (by have := h.n; unfold dl at this; omega) (by have := h.d; unfold dl at this; omega) st
  rw [ratOk_of h] at this
  rw [rC_cells]
  exact this
theorem valid_ok (t1 t2 t3 t4 : Bool) (a b : Rat) (ha : Small a) (hb : Small b) (st : Store) : Rets P F.ratio_valid [.list true (rC t1 t2 a ++ rC t3 t4 b) 2] st (.tuple []) := by
  have c1 := ratCheck_ok t1 t2 a ha
  have c2 := ratCheck_ok t3 t4 b hb
  rw [rC_cells] at c1 c2
  rw [rC_cells, rC_cells]
  obtain ⟨A1, hA1⟩ : ∃ A, A = digs a.num.natAbs := ⟨_, rfl⟩
  obtain ⟨A2, hA2⟩ : ∃ A, A = digs a.den := ⟨_, rfl⟩
  obtain ⟨B1, hB1⟩ : ∃ A, A = digs b.num.natAbs := ⟨_, rfl⟩
  obtain ⟨B2, hB2⟩ : ∃ A, A = digs b.den := ⟨_, rfl⟩
  obtain ⟨s1, hs1⟩ : ∃ A, A = decide (a.num < 0) := ⟨_, rfl⟩
  obtain ⟨s2, hs2⟩ : ∃ A, A = decide (b.num < 0) := ⟨_, rfl⟩
  rw [← hA1, ← hA2, ← hs1] at c1 ⊢
  rw [← hB1, ← hB2, ← hs2] at c2 ⊢
  clear hA1 hA2 hB1 hB2 hs1 hs2 ha hb
  refine H.ratio_valid.view hmix rfl rfl ?_
  repeat' (simp -dsimp -implicitDefEqProofs [*])
  refine xloop_for (fun n : Nat => [(4, .list true ([.bool s1, intLst t1 A1, .bool false, intLst t2 A2] ++ [.bool s2, intLst t3 B1, .bool false, intLst t4 B2]) 2), (5, .int 2), (6, .int n)]) (fun _ => st) (fun n => n ≤ 2) (fun n => 2 - n) 0 (by omega) (by simp) (.refl _) ?_
  intro n hn
  match n, hn with
  | 0, _ =>
    repeat' (first 
     | (with_reducible refine Fresh.intro fun b hb => ?_) <;> (try simp -dsimp -implicitDefEqProofs [*] at hb)
     | (with_reducible refine Rets.xcall (c1 _) ?_)
     | (with_reducible refine Rets.xcall (rneed_ok _ _) ?_)
     | (simp -dsimp -implicitDefEqProofs [*]))
    exact Next.intro 1 (by omega) (by omega) (by simp) (by repeat' (first | exact StLe.refl _ | (refine StLe_cons (by simp [*]; done) ?_) | (refine StLe_fresh (by simp [*]; done) ?_)))
  | 1, _ =>
    repeat' (first 
     | (with_reducible refine Fresh.intro fun b hb => ?_) <;> (try simp -dsimp -implicitDefEqProofs [*] at hb)
     | (with_reducible refine Rets.xcall (c2 _) ?_)
     | (with_reducible refine Rets.xcall (rneed_ok _ _) ?_)
     | (simp -dsimp -implicitDefEqProofs [*]))
    exact Next.intro 2 (by omega) (by omega) (by simp) (by repeat' (first | exact StLe.refl _ | (refine StLe_cons (by simp [*]; done) ?_) | (refine StLe_fresh (by simp [*]; done) ?_)))
  | 2, _ =>
    repeat' (simp -dsimp -implicitDefEqProofs [*])
    exact .same ⟨rfl, rfl⟩
def zRow (l : List Int) : List PV := l.flatMap (zC false)
theorem zC_len (t : Bool) (z : Int) : (zC t z).length = 2 := rfl
theorem zRow_len (l : List Int) : (zRow l).length = l.length * 2 := flat_length (zC false) 2 (zC_len false) l
theorem zRow_append (l m : List Int) : zRow (l ++ m) = zRow l ++ zRow m := by simp [zRow]
theorem products_spec (t1 t2 t3 t4 : Bool) (a b c d : Int) (ha : dl a.natAbs ≤ 2048) (hb : dl b.natAbs ≤ 2048) (hc : dl c.natAbs ≤ 2048) (hd : dl d.natAbs ≤ 2048) (hab : dl (a * b).natAbs ≤ 2048) (hcd : dl (c * d).natAbs ≤ 2048) (st : Store) :
    Rets P F.ratio_products [.list true (zC t1 a ++ zC t2 b ++ zC t3 c ++ zC t4 d) 4] st (.list false (zC false (a * b) ++ zC false (c * d)) 2) := by
  have m1 := natMul_spec t1 t2 a b ha hb hab
  have m2 := natMul_spec t3 t4 c d hc hd hcd
  have e1 : zC false (a * b) ++ zC false (c * d) = zRow [a * b, c * d] := by simp [zRow]
  rw [e1]
  obtain ⟨x, hx⟩ : ∃ x, x = a * b := ⟨_, rfl⟩
  obtain ⟨y, hy⟩ : ∃ x, x = c * d := ⟨_, rfl⟩
  rw [← hx] at m1 ⊢
  rw [← hy] at m2 ⊢
  clear e1 hx hy hab hcd ha hb hc hd
  have e2 := fun (z : Int) => did_big (decide (z < 0)) false (digs z.natAbs)
  have e3 : ∀ (z : Int), zC false z = [.bool (decide (z < 0)), intLst false (digs z.natAbs)] := fun z => rfl
  have e4 : ∀ (z : Int) st, Rets P F.ratio_did__apiBig [.agg (zC false z), .int 0] st (.agg (zC false z)) := fun z st => e2 z st
  clear e2 e3
  obtain ⟨R, hR⟩ : ∃ R, R = zC t1 a ++ zC t2 b ++ zC t3 c ++ zC t4 d := ⟨_, rfl⟩
  have k0 : sub R 0 2 = some (zC t1 a) := by rw [hR]; rfl
  have k1 : sub R 2 2 = some (zC t2 b) := by rw [hR]; rfl
  have k2 : sub R 4 2 = some (zC t3 c) := by rw [hR]; rfl
  have k3 : sub R 6 2 = some (zC t4 d) := by rw [hR]; rfl
  have kl : R.length = 8 := by rw [hR]; rfl
  rw [← hR]
  clear hR
  have lz : ∀ t (z : Int), (zC t z).length = 2 := fun _ _ => rfl
  have v3 : IntKind.i64.wrap 3 = 3 := wrap_in (by decide) (by decide)
  have v4 : IntKind.i64.wrap 4 = 4 := wrap_in (by decide) (by decide)
  have v5 : IntKind.i64.wrap 5 = 5 := wrap_in (by decide) (by decide)
  refine H.ratio_products.view hmix rfl rfl ?_
  repeat' (simp -dsimp -implicitDefEqProofs [*])
  refine xloop_for (fun z : Nat × Option (Acc Int) => [(0, .list true R 4), (2, accP z.2), (3, .int ((2 * z.1 : Nat) : Int))]) (fun z => accS T.apiBig st z.2) (fun z => Hid ((z.1 = 0 ∧ z.2 = none) ∨ ∃ a : Acc Int, z.2 = some a ∧ a.Ok zRow 2 ∧ snew st a.b ∧ ((z.1 = 1 ∧ a.l = [x]) ∨ (z.1 = 2 ∧ a.l = [x, y])))) (fun z => 2 - z.1) (0, none) ⟨.inl ⟨rfl, rfl⟩⟩ (by simp) (.refl _) ?_
  rintro ⟨n, o⟩ ⟨hI⟩
  simp only at hI
  rcases hI with ⟨rfl, rfl⟩ | ⟨r, rfl, hr, hrb, ⟨rfl, hl0⟩ | ⟨rfl, hl0⟩⟩
  · clear m2 k2 k3
    repeat' (first 
     | (with_reducible refine Rets.xcall (m1 _) ?_)
     | (with_reducible refine Rets.xcall (e4 _ _) ?_)
     | (with_reducible refine DrawLate.intro [] ?_)
     | (simp -dsimp -implicitDefEqProofs [-xappend_list, *]))
    refine xappend_acc0 zRow_len [x] (by simp [zRow]) rfl (by omega) (by omega) fun r hr hl0 hb => ?_
    have hl : Hid (r.l = [x]) := ⟨hl0⟩
    clear hl0
    repeat' (first 
     | (with_reducible refine Cls_and ?_ ?_)
     | (with_reducible exact Cls.self _ _)
     | (with_reducible refine Cls_fresh ?_ ?_)
     | (simp -dsimp -implicitDefEqProofs [-xappend_list, *]))
    exact Next.intro (1, some r) ⟨.inr ⟨r, rfl, hr, hb, .inl ⟨rfl, hl.out⟩⟩⟩ (by simp only; omega) (by simp) (by repeat' (first | exact StLe.refl _ | (refine StLe_cons (by simp [*]; done) ?_) | (refine StLe_fresh (by simp [*]; done) ?_)))
  · clear m1 k0 k1
    have hl : Hid (r.l = [x]) := ⟨hl0⟩
    clear hl0
    repeat' (simp -dsimp -implicitDefEqProofs [-xappend_list, *])
    refine DrawLate.intro [r.b] ?_
    repeat' (first 
     | (with_reducible refine Rets.xcall (m2 _) ?_)
     | (with_reducible refine Rets.xcall (e4 _ _) ?_)
     | (simp -dsimp -implicitDefEqProofs [-xappend_list, *]))
    refine xappend_acc zRow_len zRow_append hr (by simp) [y] (by simp [zRow]) rfl (by rw [hl.out]; simp) fun r2 hr2 hl20 hb2 => ?_
    have hl2 : Hid (r2.l = [x, y]) := ⟨by rw [hl20, hl.out]; rfl⟩
    clear hl20
    have eS : sdel r.b (accS T.apiBig st (some r)) = st := by simp [sdel_of_new hrb]
    have eS : sdel r.b ((r.b, .arr T.apiBig r.R) :: st) = st := eS
    rw [eS] at hb2 ⊢
    clear eS
    repeat' (first 
     | (with_reducible refine Cls_and ?_ ?_)
     | (with_reducible refine Cls_fresh ?_ ?_)
     | (simp -dsimp -implicitDefEqProofs [-xappend_list, *]))
    · exact Cls_out
    · exact Next.intro (2, some r2) ⟨.inr ⟨r2, rfl, hr2, hb2, .inr ⟨rfl, hl2.out⟩⟩⟩ (by simp only; omega) (by simp) (by repeat' (first | exact StLe.refl _ | (refine StLe_cons (by simp [*]; done) ?_) | (refine StLe_fresh (by simp [*]; done) ?_)))
  · have hl : Hid (r.l = [x, y]) := ⟨hl0⟩
    clear hl0
    clear m1 m2 k0 k1 k2 k3
    repeat' (simp -dsimp -implicitDefEqProofs [-xappend_list, *])
    refine .freeze (.list false (zRow r.l) r.l.length) hrb (Frz.acc hr) ?_
    rw [hl.out]
    exact .same ⟨rfl, rfl⟩
end Go.Proofs.Ytliglilanpfjhaa
