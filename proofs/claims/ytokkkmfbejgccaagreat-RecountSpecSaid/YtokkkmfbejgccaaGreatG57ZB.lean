/- Package recount: right, Check, Start, looks, Look. -/
import Derived.Test.YtokkkmfbejgccaaGreatG57ZA
import Derived.Test.YtokkkmfbejgccaaGreatLRg
namespace Go.Proofs.YtokkkmfbejgccaaGreat
open Go.Pv
set_option maxRecDepth 100000
set_option maxHeartbeats 8000000
theorem ccaught_ret (b : Nat) (st : Store) : Defs P F.recount_caught [.ptr b 0] .returning st .returning st := by
  refine H.recount_caught.defs hmix rfl rfl ?_
  repeat' (simp -dsimp -implicitDefEqProofs [*])
theorem ccaught_pan (b : Nat) (n m : Int) (st : Store) (hb : sget st b = some (.arr T.apiErrno [.int m])) : Defs P F.recount_caught [.ptr b 0] (.panicking (.iface T.apiErrno (.int n))) st .returning (sset st b (.arr T.apiErrno [.int n])) := by
  refine H.recount_caught.defs hmix rfl rfl ?_
  repeat' (simp -dsimp -implicitDefEqProofs [*])
theorem ccaught_top (b : Nat) (n m : Int) (st : Store) : Defs P F.recount_caught [.ptr b 0] (.panicking (.iface T.apiErrno (.int n))) ((b, .arr T.apiErrno [.int m]) :: st) .returning ((b, .arr T.apiErrno [.int n]) :: st) := by
  have := ccaught_pan b n m ((b, .arr T.apiErrno [.int m]) :: st) (by simp)
  simpa [sset] using this
theorem cneed_ok (e : Int) (st : Store) : Rets P F.recount_need [.bool true, .int e] st (.tuple []) := by
  refine H.recount_need.pure hmix rfl rfl ?_
  repeat' (simp -dsimp -implicitDefEqProofs [*])
theorem cneed_no (e : Int) (st : Store) : Panics P F.recount_need [.bool false, .int e] st (.iface T.apiErrno (.int e)) := by
  refine H.recount_need.panics hmix rfl rfl ?_
  repeat' (simp -dsimp -implicitDefEqProofs [*])
/-- How many sheets are enough; the error with which that ends. -/
def Rc.K (r : Rc) : Int := needK r.n r.w r.s1 r.L1 r.s2 r.L2
def Rc.E (r : Rc) : Int := needE r.n r.w r.s1 r.L1 r.s2 r.L2
/-- Is a recount right? -/
def Rc.ok (r : Rc) : Bool := decide (r.E = 0) && decide (0 ≤ r.a) && ((decide (r.s = 1) && decide (r.a = r.K)) || ((decide (r.s = 0) || decide (r.s = 2)) && decide (r.a < r.K)))
/-- Its numbers are short, or too long. -/
structure Rc.Few (r : Rc) : Prop where
  n : r.n ≤ 40 ∨ 4096 < r.n
  l1 : Few3 r.L1
  l2 : Few3 r.L2
theorem Rc.Few.len {r : Rc} (h : r.Few) : r.Len := by
  have h1 := h.l1
  have h2 := h.l2
  unfold Few3 at h1 h2
  exact ⟨by omega, by omega⟩
theorem right_spec (r : Rc) (hr : r.Few) (t1 t2 : Bool) (st : Store) : (r.ok = true → Rets P F.recount_right [.agg (r.enc t1 t2)] st (.int r.K)) ∧ (r.ok = false → Panics P F.recount_right [.agg (r.enc t1 t2)] st (.iface T.apiErrno (.int 570))) := by
  have c0 := need_spec r.n r.w hr.n r.s1 t1 r.s2 t2 r.L1 r.L2 hr.l1 hr.l2
  obtain ⟨K, hK⟩ : ∃ K, K = r.K := ⟨_, rfl⟩
  obtain ⟨E, hE⟩ : ∃ E, E = r.E := ⟨_, rfl⟩
  have c : ∀ st, Rets P F.risk_Need [.int r.n, .int r.w, .agg [.bool r.s1, intLst t1 r.L1, .bool r.s2, intLst t2 r.L2]] st (.tuple [.int K, .int E]) := by rw [hK, hE]; exact c0
  have eo : r.ok = (decide (E = 0) && decide (0 ≤ r.a) && ((decide (r.s = 1) && decide (r.a = K)) || ((decide (r.s = 0) || decide (r.s = 2)) && decide (r.a < K)))) := by rw [hK, hE]; rfl
  rw [eo, ← hK]
  clear hK hE eo hr c0
  obtain ⟨n, w, s1, L1, s2, L2, a, s⟩ := r
  simp only at c ⊢
  unfold Rc.enc
  simp only
  by_cases h1 : E = 0
  · by_cases h2 : 0 ≤ a
    · by_cases h3 : s = 1
      · by_cases h4 : a = K
        · refine ⟨fun _ => ?_, fun h => by simp [h1, h3, h4] at h; omega⟩
          refine H.recount_right.view hmix rfl rfl ?_
          subst h4
          repeat' (first 
           | (with_reducible refine Fresh.intro fun b hb => ?_) <;> (try simp -dsimp -implicitDefEqProofs [*] at hb)
           | (with_reducible refine Rets.xcall (c _) ?_)
           | (with_reducible refine Rets.xcall (cneed_ok _ _) ?_)
           | (simp -dsimp -implicitDefEqProofs [*]))
          exact RetView.drop (st' := st) (by repeat' (first | exact StLe.refl _ | (refine StLe_cons (by simp [*]; done) ?_) | (refine StLe_fresh (by simp [*]; done) ?_))) ⟨rfl, rfl⟩
        · refine ⟨fun h => by simp [h1, h2, h3, h4] at h, fun _ => ?_⟩
          refine H.recount_right.panics hmix rfl rfl ?_
          repeat' (first 
           | (with_reducible refine Fresh.intro fun b hb => ?_) <;> (try simp -dsimp -implicitDefEqProofs [*] at hb)
           | (with_reducible refine Rets.xcall (c _) ?_)
           | (with_reducible refine Rets.xcall (cneed_ok _ _) ?_)
           | (with_reducible refine Panics.xcall (cneed_no _ _) ?_)
           | (simp -dsimp -implicitDefEqProofs [*]))
      · by_cases h4 : s = 0 ∨ s = 2
        · by_cases h5 : a < K
          · refine ⟨fun _ => ?_, fun h => by rcases h4 with h4 | h4 <;> simp [h1, h2, h4, h5] at h⟩
            refine H.recount_right.view hmix rfl rfl ?_
            rcases h4 with h4 | h4
            · subst h4
              repeat' (first 
               | (with_reducible refine Fresh.intro fun b hb => ?_) <;> (try simp -dsimp -implicitDefEqProofs [*] at hb)
               | (with_reducible refine Rets.xcall (c _) ?_)
               | (with_reducible refine Rets.xcall (cneed_ok _ _) ?_)
               | (simp -dsimp -implicitDefEqProofs [*]))
              exact RetView.drop (st' := st) (by repeat' (first | exact StLe.refl _ | (refine StLe_cons (by simp [*]; done) ?_) | (refine StLe_fresh (by simp [*]; done) ?_))) ⟨rfl, rfl⟩
            · subst h4
              repeat' (first 
               | (with_reducible refine Fresh.intro fun b hb => ?_) <;> (try simp -dsimp -implicitDefEqProofs [*] at hb)
               | (with_reducible refine Rets.xcall (c _) ?_)
               | (with_reducible refine Rets.xcall (cneed_ok _ _) ?_)
               | (simp -dsimp -implicitDefEqProofs [*]))
              exact RetView.drop (st' := st) (by repeat' (first | exact StLe.refl _ | (refine StLe_cons (by simp [*]; done) ?_) | (refine StLe_fresh (by simp [*]; done) ?_))) ⟨rfl, rfl⟩
          · refine ⟨fun h => by rcases h4 with h4 | h4 <;> simp [h1, h2, h4, h5] at h, fun _ => ?_⟩
            refine H.recount_right.panics hmix rfl rfl ?_
            rcases h4 with h4 | h4
            · subst h4
              repeat' (first 
               | (with_reducible refine Fresh.intro fun b hb => ?_) <;> (try simp -dsimp -implicitDefEqProofs [*] at hb)
               | (with_reducible refine Rets.xcall (c _) ?_)
               | (with_reducible refine Rets.xcall (cneed_ok _ _) ?_)
               | (with_reducible refine Panics.xcall (cneed_no _ _) ?_)
               | (simp -dsimp -implicitDefEqProofs [*]))
            · subst h4
              repeat' (first 
               | (with_reducible refine Fresh.intro fun b hb => ?_) <;> (try simp -dsimp -implicitDefEqProofs [*] at hb)
               | (with_reducible refine Rets.xcall (c _) ?_)
               | (with_reducible refine Rets.xcall (cneed_ok _ _) ?_)
               | (with_reducible refine Panics.xcall (cneed_no _ _) ?_)
               | (simp -dsimp -implicitDefEqProofs [*]))
        · have h5 : ¬ s = 0 := fun e => h4 (.inl e)
          have h6 : ¬ s = 2 := fun e => h4 (.inr e)
          refine ⟨fun h => by simp [h1, h2, h3, h5, h6] at h, fun _ => ?_⟩
          clear h4
          refine H.recount_right.panics hmix rfl rfl ?_
          repeat' (first 
           | (with_reducible refine Fresh.intro fun b hb => ?_) <;> (try simp -dsimp -implicitDefEqProofs [*] at hb)
           | (with_reducible refine Rets.xcall (c _) ?_)
           | (with_reducible refine Rets.xcall (cneed_ok _ _) ?_)
           | (simp -dsimp -implicitDefEqProofs [*]))
    · refine ⟨fun h => by simp [h1, h2] at h, fun _ => ?_⟩
      refine H.recount_right.panics hmix rfl rfl ?_
      repeat' (first 
       | (with_reducible refine Fresh.intro fun b hb => ?_) <;> (try simp -dsimp -implicitDefEqProofs [*] at hb)
       | (with_reducible refine Rets.xcall (c _) ?_)
       | (with_reducible refine Panics.xcall (cneed_no _ _) ?_)
       | (simp -dsimp -implicitDefEqProofs [*]))
  · refine ⟨fun h => by simp [h1] at h, fun _ => ?_⟩
    refine H.recount_right.panics hmix rfl rfl ?_
    repeat' (first 
     | (with_reducible refine Fresh.intro fun b hb => ?_) <;> (try simp -dsimp -implicitDefEqProofs [*] at hb)
     | (with_reducible refine Rets.xcall (c _) ?_)
     | (with_reducible refine Panics.xcall (cneed_no _ _) ?_)
     | (simp -dsimp -implicitDefEqProofs [*]))
theorem check_spec (r : Rc) (hr : r.Few) (t1 t2 : Bool) (st : Store) : Rets P F.recount_Check [.agg (r.enc t1 t2)] st (.int (if r.ok then 0 else 570)) := by
  have c := right_spec r hr t1 t2
  have lE : (r.enc t1 t2).length = 8 := rfl
  obtain ⟨X, hX⟩ : ∃ X, X = r.enc t1 t2 := ⟨_, rfl⟩
  rw [← hX] at c lE ⊢
  have f2 := cells_sub lE
  clear hX
  cases h : r.ok with
  | true =>
    have c1 := fun st => (c st).1 h
    clear c
    refine H.recount_Check.view hmix rfl rfl ?_
    repeat' (first 
     | (with_reducible refine Fresh.intro fun b hb => ?_) <;> (try simp -dsimp -implicitDefEqProofs [*] at hb)
     | (with_reducible refine Rets.xcall (c1 _) ?_)
     | (with_reducible refine Defs.xdef (ccaught_ret _ _) ?_)
     | (simp -dsimp -implicitDefEqProofs [H.recount_caught.enters, *]))
    exact RetView.drop (st' := st) (by repeat' (first | exact StLe.refl _ | (refine StLe_cons (by simp [*]; done) ?_) | (refine StLe_fresh (by simp [*]; done) ?_))) ⟨rfl, rfl⟩
  | false =>
    have c1 := fun st => (c st).2 h
    clear c
    refine H.recount_Check.view hmix rfl rfl ?_
    repeat' (first 
     | (with_reducible refine Fresh.intro fun b hb => ?_) <;> (try simp -dsimp -implicitDefEqProofs [*] at hb)
     | (with_reducible refine Panics.xcall (c1 _) ?_)
     | (with_reducible refine Defs.xdef (ccaught_top _ _ _ _) ?_)
     | (simp -dsimp -implicitDefEqProofs [H.recount_caught.enters, *]))
    repeat' (simp -dsimp -implicitDefEqProofs [epick, *])
    exact RetView.drop (st' := st) (by repeat' (first | exact StLe.refl _ | (refine StLe_cons (by simp [*]; done) ?_) | (refine StLe_fresh (by simp [*]; done) ?_))) ⟨rfl, rfl⟩
/-- How a recount starts. -/
def startR (n w : Int) (s1 : Bool) (L1 : List Int) (s2 : Bool) (L2 : List Int) : Rc :=
  if needE n w s1 L1 s2 L2 = 0 then ⟨n, w, s1, L1, s2, L2, 0, if needK n w s1 L1 s2 L2 = 0 then 1 else 0⟩ else Rc.zero
theorem start_spec (n w : Int) (s1 t1 s2 t2 : Bool) (L1 L2 : List Int) (hn : n ≤ 40 ∨ 4096 < n) (hl1 : Few3 L1) (hl2 : Few3 L2) (st : Store) :
    Rets P F.recount_Start [.int n, .int w, .agg [.bool s1, intLst t1 L1, .bool s2, intLst t2 L2]] st (.tuple [.agg ((startR n w s1 L1 s2 L2).enc false false), .int (needE n w s1 L1 s2 L2)]) := by
  have c := need_spec n w hn s1 t1 s2 t2 L1 L2 hl1 hl2
  unfold startR
  obtain ⟨K, hK⟩ : ∃ K, K = needK n w s1 L1 s2 L2 := ⟨_, rfl⟩
  obtain ⟨E, hE⟩ : ∃ E, E = needE n w s1 L1 s2 L2 := ⟨_, rfl⟩
  rw [← hK, ← hE] at c ⊢
  clear hK hE hn hl1 hl2
  have pl : ∀ (a b : Int) (s s' : Bool) (l l' : PV) (m m' : List Int) (c d e : Int), PLe l (intLst false m) → PLe l' (intLst false m') → PLe (.tuple [.agg [.int a, .int b, .bool s, l, .bool s', l', .int c, .int d], .int e]) (.tuple [.agg [.int a, .int b, .bool s, intLst false m, .bool s', intLst false m', .int c, .int d], .int e]) :=
    fun a b s s' l l' m m' c d e h1 h2 => PLe.tuples ⟨PLe.aggs ⟨.refl _, .refl _, .refl _, h1, .refl _, h2, .refl _, .refl _, trivial⟩, .refl _, trivial⟩
  by_cases h1 : E = 0
  · rw [if_pos h1]
    unfold Rc.enc
    by_cases h2 : K = 0
    · rw [if_pos h2]
      refine H.recount_Start.view hmix rfl rfl ?_
      repeat' (first 
       | (with_reducible refine Fresh.intro fun b hb => ?_) <;> (try simp -dsimp -implicitDefEqProofs [*] at hb)
       | (with_reducible refine Rets.xcall (c _) ?_)
       | (simp -dsimp -implicitDefEqProofs [*]))
      refine .le (pl _ _ _ _ _ _ L1 L2 _ _ _ PLe.loose PLe.loose) ?_
      exact RetView.drop (st' := st) (by repeat' (first | exact StLe.refl _ | (refine StLe_cons (by simp [*]; done) ?_) | (refine StLe_fresh (by simp [*]; done) ?_))) ⟨rfl, rfl⟩
    · rw [if_neg h2]
      refine H.recount_Start.view hmix rfl rfl ?_
      repeat' (first 
       | (with_reducible refine Fresh.intro fun b hb => ?_) <;> (try simp -dsimp -implicitDefEqProofs [*] at hb)
       | (with_reducible refine Rets.xcall (c _) ?_)
       | (simp -dsimp -implicitDefEqProofs [*]))
      refine .le (pl _ _ _ _ _ _ L1 L2 _ _ _ PLe.loose PLe.loose) ?_
      exact RetView.drop (st' := st) (by repeat' (first | exact StLe.refl _ | (refine StLe_cons (by simp [*]; done) ?_) | (refine StLe_fresh (by simp [*]; done) ?_))) ⟨rfl, rfl⟩
  · rw [if_neg h1]
    unfold Rc.enc Rc.zero
    refine H.recount_Start.view hmix rfl rfl ?_
    repeat' (first 
     | (with_reducible refine Fresh.intro fun b hb => ?_) <;> (try simp -dsimp -implicitDefEqProofs [*] at hb)
     | (with_reducible refine Rets.xcall (c _) ?_)
     | (simp -dsimp -implicitDefEqProofs [*]))
    refine .le (pl _ _ _ _ _ _ [] [] _ _ _ PLe.nil0 PLe.nil0) ?_
    exact RetView.drop (st' := st) (by repeat' (first | exact StLe.refl _ | (refine StLe_cons (by simp [*]; done) ?_) | (refine StLe_fresh (by simp [*]; done) ?_))) ⟨rfl, rfl⟩
end Go.Proofs.YtokkkmfbejgccaaGreat
/- Package recount: looks, Look. -/
namespace Go.Proofs.YtokkkmfbejgccaaGreat
open Go.Pv
set_option maxRecDepth 100000
set_option maxHeartbeats 8000000
/-- What a look at a sheet does. -/
def actP (b : Bool) : PV := .func (.func (if b then F.recount_looks_2 else F.recount_looks_1)) [] []
def looksM : PV := .imap [.bool false, .bool true] [.agg [actP false], .agg [actP true]]
theorem looks_spec (st : Store) : Rets P F.recount_looks [] st looksM := by
  have e : looksM = .imap [.bool false, .bool true] [.agg [.func (.func F.recount_looks_1) [] []], .agg [.func (.func F.recount_looks_2) [] []]] := rfl
  rw [e]
  clear e
  refine H.recount_looks.view hmix rfl rfl ?_
  repeat' (first 
   | (with_reducible refine Fresh.intro fun b hb => ?_) <;> (try simp -dsimp -implicitDefEqProofs [*] at hb)
   | (simp -dsimp -implicitDefEqProofs [*]))
  exact .freeze _ hb (.map _ _ rfl) (.same ⟨rfl, rfl⟩)
/-- A recount behind a look. -/
def Rc.look (r : Rc) (b : Bool) (K : Int) : Rc := if b then ⟨r.n, r.w, r.s1, r.L1, r.s2, r.L2, r.a + 1, if r.a + 1 = K then 1 else r.s⟩ else ⟨r.n, r.w, r.s1, r.L1, r.s2, r.L2, r.a, 2⟩
theorem act_spec (r : Rc) (ha : 0 ≤ r.a ∧ r.a ≤ 1000000) (t1 t2 b : Bool) (K : Int) (p : Nat) (st : Store) : Does P (if b then F.recount_looks_2 else F.recount_looks_1) [.ptr p 0, .int K] ((p, .arr T.apiRecount (r.enc t1 t2)) :: st) (.tuple []) ((p, .arr T.apiRecount ((r.look b K).enc t1 t2)) :: st) := by
  obtain ⟨n, w, s1, L1, s2, L2, a, s⟩ := r
  simp only at ha
  unfold Rc.look Rc.enc
  cases b with
  | false =>
    simp only [Bool.false_eq_true, if_false]
    refine H.recount_looks_1.view hmix rfl rfl ?_
    repeat' (simp -dsimp -implicitDefEqProofs [*])
    exact .same ⟨rfl, rfl⟩
  | true =>
    simp only [if_true]
    have w1 : IntKind.i64.wrap (a + 1) = a + 1 := wrap_in (by omega) (by omega)
    by_cases h : a + 1 = K
    · rw [if_pos h]
      subst h
      refine H.recount_looks_2.view hmix rfl rfl ?_
      repeat' (simp -dsimp -implicitDefEqProofs [*])
      exact .same ⟨rfl, rfl⟩
    · rw [if_neg h]
      refine H.recount_looks_2.view hmix rfl rfl ?_
      repeat' (simp -dsimp -implicitDefEqProofs [*])
      exact .same ⟨rfl, rfl⟩
theorem RETS_le {g : FuncId} {ps : List PV} {st : Store} {p q : PV} (hp : PLe p q) (h : Rets P g ps st p) : Rets P g ps st q :=
  PCalls.viewed (PCalls.mono h fun _e _s ⟨he, hs⟩ => ⟨p, he, .le hp (.same ⟨rfl, hs⟩)⟩)
/-- What Look gives. -/
def lookR (r : Rc) (b : Bool) : Rc × Int := if r.ok && decide (r.s = 0) then (r.look b r.K, 0) else (Rc.zero, 570)
theorem zero_le (_t1 _t2 : Bool) (e : Int) : PLe (.tuple [.agg [.int 0, .int 0, .bool false, .nil, .bool false, .nil, .int 0, .int 0], .int e]) (.tuple [.agg (Rc.zero.enc false false), .int e]) :=
  PLe.tuples ⟨PLe.aggs ⟨.refl _, .refl _, .refl _, PLe.nil0, .refl _, PLe.nil0, .refl _, .refl _, trivial⟩, .refl _, trivial⟩
theorem Rc.a_of_ok {r : Rc} (h : r.ok = true) : 0 ≤ r.a := by
  unfold Rc.ok at h
  simp only [Bool.and_eq_true, decide_eq_true_eq] at h
  exact h.1.2
theorem lookR_ok {r : Rc} {g : Bool} (h : r.ok = true) (hs : r.s = 0) : lookR r g = (r.look g r.K, 0) := by simp [lookR, h, hs]
theorem lookR_no {r : Rc} {g : Bool} (h : r.ok = true → r.s ≠ 0) : lookR r g = (Rc.zero, 570) := by
  unfold lookR
  cases hk : r.ok with
  | false => rfl
  | true => rw [decide_eq_false (h hk)]; rfl
theorem look_spec (r : Rc) (hr : r.Few) (hK : r.K ≤ 1000000) (t1 t2 g : Bool) (st : Store) : Rets P F.recount_Look [.agg (r.enc t1 t2), .bool g] st (.tuple [.agg ((lookR r g).1.enc false false), .int (lookR r g).2]) := by
  have c := right_spec r hr t1 t2
  have lE : (r.enc t1 t2).length = 8 := rfl
  have ls : ∀ h : 7 < (r.enc t1 t2).length, (r.enc t1 t2)[7]'h = .int r.s := fun _ => rfl
  cases h : r.ok with
  | false =>
    rw [lookR_no (fun e => by rw [h] at e; cases e)]
    show Rets P F.recount_Look [.agg (r.enc t1 t2), .bool g] st (.tuple [.agg (Rc.zero.enc false false), .int 570])
    have c1 := fun st => (c st).2 h
    clear c h
    obtain ⟨X, hX⟩ : ∃ X, X = r.enc t1 t2 := ⟨_, rfl⟩
    rw [← hX] at c1 lE ⊢
    have f2 := cells_sub lE
    clear hX ls
    refine H.recount_Look.view hmix rfl rfl ?_
    repeat' (first 
     | (with_reducible refine Fresh.intro fun b hb => ?_) <;> (try simp -dsimp -implicitDefEqProofs [*] at hb)
     | (with_reducible refine Panics.xcall (c1 _) ?_)
     | (with_reducible refine Defs.xdef (ccaught_top _ _ _ _) ?_)
     | (simp -dsimp -implicitDefEqProofs [H.recount_caught.enters, *]))
    repeat' (simp -dsimp -implicitDefEqProofs [epick, *])
    refine .le (zero_le t1 t2 _) ?_
    exact RetView.drop (st' := st) (by repeat' (first | exact StLe.refl _ | (refine StLe_cons (by simp [*]; done) ?_) | (refine StLe_fresh (by simp [*]; done) ?_))) ⟨rfl, rfl⟩
  | true =>
    have c1 := fun st => (c st).1 h
    by_cases hs : r.s = 0
    · have ha := fun g => act_spec r ⟨Rc.a_of_ok h, by
        have := h
        unfold Rc.ok at this
        simp only [Bool.and_eq_true, Bool.or_eq_true, decide_eq_true_eq] at this
        omega⟩ t1 t2 g r.K
      have hl := looks_spec
      have el : looksM = .imap [.bool false, .bool true] [.agg [.func (.func F.recount_looks_1) [] []], .agg [.func (.func F.recount_looks_2) [] []]] := rfl
      rw [el] at hl
      rw [lookR_ok h hs]
      show Rets P F.recount_Look [.agg (r.enc t1 t2), .bool g] st (.tuple [.agg ((r.look g r.K).enc false false), .int 0])
      obtain ⟨X, hX⟩ : ∃ X, X = r.enc t1 t2 := ⟨_, rfl⟩
      have lle : ∀ g, PLe (.tuple [.agg ((r.look g r.K).enc t1 t2), .int 0]) (.tuple [.agg ((r.look g r.K).enc false false), .int 0]) := fun g =>
        PLe.tuples ⟨PLe.aggs ⟨.refl _, .refl _, .refl _, PLe.loose, .refl _, PLe.loose, .refl _, .refl _, trivial⟩, .refl _, trivial⟩
      rw [hs] at ls
      rw [← hX] at c1 lE ls ha ⊢
      have f2 := cells_sub lE
      have lY : ∀ g, ((r.look g r.K).enc t1 t2).length = 8 := fun g => rfl
      obtain ⟨K, hK⟩ : ∃ K, K = r.K := ⟨_, rfl⟩
      rw [← hK] at c1
      refine RETS_le (lle g) ?_
      have ha := ha g
      have lY := lY g
      obtain ⟨Y, hY⟩ : ∃ Y, Y = (r.look g r.K).enc t1 t2 := ⟨_, rfl⟩
      rw [← hY] at ha lY ⊢
      rw [← hK] at ha
      have f3 := cells_sub lY
      have f4 := cells_all (c := [.int 0, .int 0, .bool false, .nil, .bool false, .nil, .int 0, .int 0]) (V := Y) (by rw [lY]; rfl)
      clear hX hY c h hs hr lle hK el
      refine H.recount_Look.view hmix rfl rfl ?_
      cases g with
      | false =>
        have ha : ∀ p st, Does P F.recount_looks_1 [.ptr p 0, .int K] ((p, .arr T.apiRecount X) :: st) (.tuple []) ((p, .arr T.apiRecount Y) :: st) := ha
        repeat' (first 
         | (with_reducible refine Fresh.intro fun b hb => ?_) <;> (try simp -dsimp -implicitDefEqProofs [*] at hb)
         | (with_reducible refine Rets.xcall (c1 _) ?_)
         | (with_reducible refine Rets.xcall (cneed_ok _ _) ?_)
         | (with_reducible refine Rets.xcall (hl _) ?_)
         | (simp -dsimp -implicitDefEqProofs [H.recount_caught.enters, *]))
        revert b
        revert b
        revert b
        intro p2 h2 p4 h4 p5 h5
        refine Does.xcall (Does.le (ha p2 ((p5, .arr T.apiErrno [.int 0]) :: (p4, .arr T.apiRecount [.int 0, .int 0, .bool false, .nil, .bool false, .nil, .int 0, .int 0]) :: st)) (by repeat' (first | exact StLe.refl _ | (refine StLe_cons (by simp [*]; done) ?_) | (refine StLe_fresh (by simp [*]; done) ?_)))) ?_
        repeat' (first 
         | (with_reducible refine Defs.xdef (ccaught_ret _ _) ?_)
         | (simp -dsimp -implicitDefEqProofs [*]))
        exact RetView.drop (st' := st) (by repeat' (first | exact StLe.refl _ | (refine StLe_cons (by simp [*]; done) ?_) | (refine StLe_fresh (by simp [*]; done) ?_))) ⟨rfl, rfl⟩
      | true =>
        have ha : ∀ p st, Does P F.recount_looks_2 [.ptr p 0, .int K] ((p, .arr T.apiRecount X) :: st) (.tuple []) ((p, .arr T.apiRecount Y) :: st) := ha
        repeat' (first 
         | (with_reducible refine Fresh.intro fun b hb => ?_) <;> (try simp -dsimp -implicitDefEqProofs [*] at hb)
         | (with_reducible refine Rets.xcall (c1 _) ?_)
         | (with_reducible refine Rets.xcall (cneed_ok _ _) ?_)
         | (with_reducible refine Rets.xcall (hl _) ?_)
         | (simp -dsimp -implicitDefEqProofs [H.recount_caught.enters, *]))
        revert b
        revert b
        revert b
        intro p2 h2 p4 h4 p5 h5
        refine Does.xcall (Does.le (ha p2 ((p5, .arr T.apiErrno [.int 0]) :: (p4, .arr T.apiRecount [.int 0, .int 0, .bool false, .nil, .bool false, .nil, .int 0, .int 0]) :: st)) (by repeat' (first | exact StLe.refl _ | (refine StLe_cons (by simp [*]; done) ?_) | (refine StLe_fresh (by simp [*]; done) ?_)))) ?_
        repeat' (first 
         | (with_reducible refine Defs.xdef (ccaught_ret _ _) ?_)
         | (simp -dsimp -implicitDefEqProofs [*]))
        exact RetView.drop (st' := st) (by repeat' (first | exact StLe.refl _ | (refine StLe_cons (by simp [*]; done) ?_) | (refine StLe_fresh (by simp [*]; done) ?_))) ⟨rfl, rfl⟩
    · rw [lookR_no (fun _ => hs)]
      show Rets P F.recount_Look [.agg (r.enc t1 t2), .bool g] st (.tuple [.agg (Rc.zero.enc false false), .int 570])
      obtain ⟨X, hX⟩ : ∃ X, X = r.enc t1 t2 := ⟨_, rfl⟩
      rw [← hX] at c1 lE ls ⊢
      have f2 := cells_sub lE
      clear hX c h
      refine H.recount_Look.view hmix rfl rfl ?_
      repeat' (first 
       | (with_reducible refine Fresh.intro fun b hb => ?_) <;> (try simp -dsimp -implicitDefEqProofs [*] at hb)
       | (with_reducible refine Rets.xcall (c1 _) ?_)
       | (with_reducible refine Panics.xcall (cneed_no _ _) ?_)
       | (with_reducible refine Defs.xdef (ccaught_top _ _ _ _) ?_)
       | (simp -dsimp -implicitDefEqProofs [H.recount_caught.enters, *]))
      repeat' (simp -dsimp -implicitDefEqProofs [epick, *])
      refine .le (zero_le t1 t2 _) ?_
      exact RetView.drop (st' := st) (by repeat' (first | exact StLe.refl _ | (refine StLe_cons (by simp [*]; done) ?_) | (refine StLe_fresh (by simp [*]; done) ?_))) ⟨rfl, rfl⟩
end Go.Proofs.YtokkkmfbejgccaaGreat
/- Package recount: sheets. -/
namespace Go.Proofs.YtokkkmfbejgccaaGreat
open Go.Pv
set_option maxRecDepth 100000
set_option maxHeartbeats 8000000
theorem sheets_spec (t u : Bool) (O : List Int) (A : List Bool) (st : Store) : Rets P F.recount_sheets [intLst t O, boolLst u A] st (.func (.func F.recount_sheets_1) [] [.iptr [intLst t O] 0, .iptr [looksM] 0, .iptr [boolLst u A] 0]) := by
  have el : looksM = .imap [.bool false, .bool true] [.agg [.func (.func F.recount_looks_1) [] []], .agg [.func (.func F.recount_looks_2) [] []]] := rfl
  have hl := looks_spec
  rw [el] at hl ⊢
  clear el
  refine H.recount_sheets.view hmix rfl rfl ?_
  repeat' (first 
   | (with_reducible refine Fresh.intro fun b hb => ?_) <;> (try simp -dsimp -implicitDefEqProofs [*] at hb)
   | (with_reducible refine Rets.xcall (hl _) ?_)
   | (with_reducible refine RetView.fz 1 ?_ ?_)
   | (with_reducible refine RetView.same ?_)
   | (simp -dsimp -implicitDefEqProofs [*]))
theorem sheets1_gives (t u : Bool) (O : List Int) (A : List Bool) (hO : O.length ≤ 100000) (_hA : A.length ≤ 100000) (h : ∀ i (h : i < O.length), 0 ≤ O[i] ∧ O[i] < A.length) :
    GivesN P F.recount_sheets_1 [] [.iptr [intLst t O] 0, .iptr [looksM] 0, .iptr [boolLst u A] 0] O.length (fun i => [.agg [actP (A.getD (O.getD i 0).toNat false)]]) := by
  intro σ S inv fin lp hround s0 hs0
  have el : looksM = .imap [.bool false, .bool true] [.agg [.func (.func F.recount_looks_1) [] []], .agg [.func (.func F.recount_looks_2) [] []]] := rfl
  rw [el]
  refine H.recount_sheets_1.view hmix rfl rfl ?_
  have kr : Hid (∀ i s, inv i s → i < O.length → PRound P lp [.agg [actP (A.getD (O.getD i 0).toNat false)]] (S s) fun e st' => ∃ s', st' = S s' ∧ ((e = .ret (.bool true) ∧ inv (i + 1) s') ∨ (e = .ret (.bool false) ∧ fin s'))) := ⟨hround⟩
  have kh : Hid (∀ i (h : i < O.length), 0 ≤ O[i] ∧ O[i] < A.length) := ⟨h⟩
  clear hround h el
  repeat' (simp -dsimp -implicitDefEqProofs [*])
  refine xloop_for (fun y : Nat × σ => [(0, .func (.yield lp) [] []), (2, .iptr [.imap [.bool false, .bool true] [.agg [.func (.func F.recount_looks_1) [] []], .agg [.func (.func F.recount_looks_2) [] []]]] 0), (3, .iptr [boolLst u A] 0), (7, intLst t O), (8, .int O.length), (9, .int y.1)]) (fun y => S y.2)
    (fun y => y.1 ≤ O.length ∧ inv y.1 y.2) (fun y => O.length - y.1) (0, s0) ⟨Nat.zero_le _, hs0⟩ (by simp) (.refl _) ?_
  clear hs0
  rintro ⟨i, s⟩ ⟨hi, hs⟩
  simp only at hi hs
  by_cases hil : i < O.length
  · have hr := kr.out i s hs hil
    obtain ⟨h1, h2⟩ := kh.out i hil
    obtain ⟨j, hj⟩ : ∃ j : Nat, O[i] = j := ⟨(O[i]).toNat, by omega⟩
    have hjA : j < A.length := by omega
    have e1 : A.getD (O.getD i 0).toNat false = A[j] := by
      have : O.getD i 0 = (j : Int) := by rw [← hj]; simp [hil]
      rw [this]
      show A.getD j false = A[j]
      simp [hjA]
    rw [e1] at hr
    have x5 := wrap_succ (n := i) (by omega)
    have kv : Hid _ := ⟨hr⟩
    clear hr e1 hs h1 h2
    cases hb : A[j] with
    | false =>
      rw [hb] at kv
      have kv : Hid (PRound P lp [.agg [.func (.func F.recount_looks_1) [] []]] (S s) fun e st' => ∃ s', st' = S s' ∧ ((e = .ret (.bool true) ∧ inv (i + 1) s') ∨ (e = .ret (.bool false) ∧ fin s'))) := kv
      repeat' (simp -dsimp -implicitDefEqProofs [*])
      refine DrawLate.by (fun _ => True) trivial ?_
      repeat' (simp -dsimp -implicitDefEqProofs [*])
      refine xround_post kv.out fun e st' hq => ?_
      obtain ⟨s', rfl, ⟨rfl, hi'⟩ | ⟨rfl, hi'⟩⟩ := hq
      · clear kv
        repeat' (simp -dsimp -implicitDefEqProofs [*])
        exact Next.intro (i + 1, s') ⟨by simp only; omega, hi'⟩ (by simp only; omega) (by simp) (.refl _)
      · clear kv
        repeat' (simp -dsimp -implicitDefEqProofs [*])
        exact .same ⟨rfl, s', rfl, .inr hi'⟩
    | true =>
      rw [hb] at kv
      have kv : Hid (PRound P lp [.agg [.func (.func F.recount_looks_2) [] []]] (S s) fun e st' => ∃ s', st' = S s' ∧ ((e = .ret (.bool true) ∧ inv (i + 1) s') ∨ (e = .ret (.bool false) ∧ fin s'))) := kv
      repeat' (simp -dsimp -implicitDefEqProofs [*])
      refine DrawLate.by (fun _ => True) trivial ?_
      repeat' (simp -dsimp -implicitDefEqProofs [*])
      refine xround_post kv.out fun e st' hq => ?_
      obtain ⟨s', rfl, ⟨rfl, hi'⟩ | ⟨rfl, hi'⟩⟩ := hq
      · clear kv
        repeat' (simp -dsimp -implicitDefEqProofs [*])
        exact Next.intro (i + 1, s') ⟨by simp only; omega, hi'⟩ (by simp only; omega) (by simp) (.refl _)
      · clear kv
        repeat' (simp -dsimp -implicitDefEqProofs [*])
        exact .same ⟨rfl, s', rfl, .inr hi'⟩
  · have e : i = O.length := by omega
    subst e
    repeat' (simp -dsimp -implicitDefEqProofs [*])
    exact .same ⟨rfl, s, rfl, .inl hs⟩
end Go.Proofs.YtokkkmfbejgccaaGreat
